/-
  'yanklinelaw24.NetPlays': the walk. No statement is proved here.
-/
import Derived.Test.YtbmlgnmilolamaaDoorSeenW
import Derived.Deep.RegionHeld3
import Derived.Deep.CutRange
import Derived.Deep.CutBlock
namespace Go.Proofs.YtbmlgnmilolamaaDoor
open Go.RowKit
/-- The first loop: from the place j on the copy is as it was; the nets stand untouched. -/
def Lap (w : World) (B : Nat) (k : Int) (fs : List FaI) (a7 : Option Addr) (len : Nat) (v8 v10 : Value) (j : Nat) (wr : World) : Prop :=
  (0 < len → ∃ g, a7 = some ⟨g, 0, none⟩ ∧ Seen wr g fs j ∧ w.heap.size ≤ g ∧ g < B) ∧ Made k fs B wr v8 v10 ∧ Below w.heap.size w wr
theorem Lap.round {w wr W : World} {B : Nat} {k : Int} {fs : List FaI} {a7 : Option Addr} {len : Nat} {v8 v10 : Value} {j : Nat} (h : Lap w B k fs a7 len v8 v10 j wr) (hj : j < len) (hw : Below wr.heap.size wr W) {f : FaI} (hf : fs[j]? = some f) :
    ∃ g, a7 = some ⟨g, 0, none⟩ ∧ W.cell? ⟨g, j * 3, none⟩ = some (.bool f.1) ∧ W.cell? ⟨g, j * 3 + 1, none⟩ = some (.int .i64 f.2.1) ∧ W.cell? ⟨g, j * 3 + 2, none⟩ = some (.int .i64 f.2.2) ∧ W.frozen? ⟨g, j * 3, none⟩ = false ∧ W.frozen? ⟨g, j * 3 + 1, none⟩ = false ∧ W.frozen? ⟨g, j * 3 + 2, none⟩ = false ∧
      Lap w B k fs a7 len v8 v10 (j + 1) (((W.setCell ⟨g, j * 3, none⟩ (.bool true)).setCell ⟨g, j * 3 + 1, none⟩ (.int .i64 77)).setCell ⟨g, j * 3 + 2, none⟩ (.int .i64 0)) := by
  obtain ⟨h1, h2, h3⟩ := h
  obtain ⟨g, rfl, hS, hg1, hg2⟩ := h1 (by omega)
  have hS2 := hS.only (Only.of_below (S := fun _ => False) hw) (fun h => h)
  obtain ⟨c0, c1, c2, f0, f1, f2⟩ := hS2.get hf
  have hO : Only (fun x => x = g) W (((W.setCell ⟨g, j * 3, none⟩ (.bool true)).setCell ⟨g, j * 3 + 1, none⟩ (.int .i64 77)).setCell ⟨g, j * 3 + 2, none⟩ (.int .i64 0)) := Only.setCell (Only.setCell (Only.setCell (Only.refl (fun x => x = g) W) ⟨g, j * 3, none⟩ (.bool true) (.inl rfl)) ⟨g, j * 3 + 1, none⟩ (.int .i64 77) (.inl rfl)) ⟨g, j * 3 + 2, none⟩ (.int .i64 0) (.inl rfl)
  have hb := h3.trans (hw.mono h3.size)
  refine ⟨g, rfl, c0, c1, c2, f0, f1, f2, fun _ => ⟨g, rfl, hS2.put _ _ _, hg1, hg2⟩, (h2.below hw).only hg2 hO, hb.trans (hO.below hb.size (fun x hx => by rw [hx]; exact hg1))⟩
set_option maxHeartbeats 8000000 in
set_option maxRecDepth 100000 in
theorem NetPlays_walk (k : Int) (a : Option Addr) (len cap : Nat) (fs : List FaI) (a2 : Option Addr) (len2 cap2 : Nat) (ss : List Stp) (w : World) (hf : FaRow w a len fs) (hs : StpRow w a2 len2 ss) (hH : Handle w) :
    Calls Tryd.prog 4 #[.int .i64 k, .slice a len cap, .slice a2 len2 cap2] w fun e w' => e = .returned (.bool true) ∧ Below w.heap.size w w' := by
  have HF := Lib.hid hf
  have HSS := Lib.hid hs
  have HH := Lib.hid hH
  have HLV := Lib.hid (fun W => lives_any W)
  clear hf hs hH
  go_enter Tryd.func4, Tryd.ntmps4
  by_cases hbig : 120 < len2 ∨ 500 < len
  · by_cases h1 : 120 < len2
    · have h1 : decide ((120 : Int) < (len2 : Int)) = true := decide_eq_true (by omega)
      clear hbig
      go_wp2_with fail
      refine (HLV.out _).mono ?_; rintro e w9 ⟨rfl, hb9⟩
      go_wp2_with fail
      go_ret
      exact ⟨rfl, hb9⟩
    · have h1 : decide ((120 : Int) < (len2 : Int)) = false := decide_eq_false (by omega)
      have h2 : decide ((500 : Int) < (len : Int)) = true := decide_eq_true (by omega)
      clear hbig
      go_wp2_with fail
      refine (HLV.out _).mono ?_; rintro e w9 ⟨rfl, hb9⟩
      go_wp2_with fail
      go_ret
      exact ⟨rfl, hb9⟩
  have h1 : decide ((120 : Int) < (len2 : Int)) = false := decide_eq_false (by omega)
  have h2 : decide ((500 : Int) < (len : Int)) = false := decide_eq_false (by omega)
  have HN := Lib.hid (show len2 ≤ 120 ∧ len ≤ 500 by omega)
  clear hbig
  obtain ⟨v7, w1, happ, hown, hb1, hfr, a7, c7, rfl⟩ := run_clone w a len cap fs HF.out (by have := HN.out; omega)
  obtain ⟨hfl, _⟩ := HF.out
  obtain ⟨a7', c7', e7, hc7, hm7, hv7⟩ := seen_view hown
  injection e7 with e7 e77 e7'
  subst e7 e7'
  clear e77
  rw [hfl] at hc7 hv7
  have HFL := Lib.hid hfl
  have HRUN := Lib.hid happ
  have HFR := Lib.hid hfr
  have HV7 := Lib.hid hv7
  have HB1 := Lib.hid hb1
  clear hfr hv7 hb1 hown hfl happ
  have HNEW : Hid (∀ W, Below w1.heap.size w1 W → Calls Tryd.prog 6 #[.int .i64 k, .slice a7 len c7] W fun e w' => ∃ v8 v9, e = .returned (.tuple #[v8, v9]) ∧ NewV k fs W w' v8 v9) := Lib.hid (fun W hb => by
    refine new_v k a7 len c7 fs W ?_ (by have := HN.out; omega)
    have hb0 := HB1.out
    refine ⟨HFL.out, fun h0 => ?_⟩
    obtain ⟨g, rfl, hS⟩ := HV7.out h0
    have hS2 := hS.only (Only.of_below (S := fun _ => False) hb) (fun h => h)
    refine ⟨g, 0, rfl, fun i f hf => ?_⟩
    obtain ⟨cs, r1, r2, r3⟩ := hS2
    obtain ⟨x0, x1, x2⟩ := r3 i f (Nat.zero_le _) hf
    simp only [Nat.zero_add]
    exact ⟨by rw [cell_of_row W g _ _ _ _ r1]; exact x0, by rw [cell_of_row W g _ _ _ _ r1]; exact x1, by rw [cell_of_row W g _ _ _ _ r1]; exact x2⟩)
  go_wp2_with (at_builtin; refine wpList_append_run rfl _ _ 38 38 rfl _ _ rfl rfl HRUN.out ?_)
  refine (HNEW.out _ (Below.refl _ _)).mono ?_; rintro e w2 ⟨v8, v9, rfl, hv⟩
  have HV := Lib.hid hv
  have HRN := Lib.hid (new_r hv a len cap ((HF.out.below HB1.out).below hv.1) (by have := HN.out; omega))
  clear hv
  go_wp2_with fail
  refine HRN.out.mono ?_; rintro e w3 ⟨v10, rfl, hb3, hm, hc⟩
  have HB3 : Hid (Below w.heap.size w w3) := Lib.hid (HB1.out.trans ((HV.out.1.trans (hb3.mono HV.out.1.size)).mono HB1.out.size))
  have HB23 := Lib.hid hb3
  have HM := Lib.hid hm
  have HC := Lib.hid (code_new hc (HH.out.below HB3.out))
  clear hb3 hm hc HRN HNEW
  go_wp2_with fail
  refine HC.out.mono ?_; rintro e w4 ⟨rfl, hb4⟩
  have HM4 := Lib.hid (HM.out.below hb4)
  have HB4 : Hid (Below w.heap.size w w4) := Lib.hid (HB3.out.trans (hb4.mono HB3.out.size))
  have HB14 : Hid (Below w1.heap.size w1 w4) := Lib.hid ((HV.out.1.trans (HB23.out.mono HV.out.1.size)).trans (hb4.mono (Nat.le_trans HV.out.1.size HB23.out.size)))
  have HS4 : Hid (0 < len → ∃ g, a7 = some ⟨g, 0, none⟩ ∧ Seen w4 g fs 0 ∧ w.heap.size ≤ g ∧ g < w1.heap.size) := Lib.hid (fun h0 => by
    obtain ⟨g, rfl, hS⟩ := HV7.out h0
    have hg1 : g < w1.heap.size := by obtain ⟨cs, h, _⟩ := hS; exact (Array.getElem?_eq_some_iff.1 h).1
    have hS4 := hS.only (Only.of_below (S := fun _ => False) (HB14.out)) (fun h => h)
    exact ⟨g, rfl, hS4, HFR.out g rfl, hg1⟩)
  clear hb4 HC
  obtain ⟨b, q8, q10, hb⟩ := HM4.out.nils
  have HBB := Lib.hid hb
  clear hb
  go_upto_region 7 with fail
  go_cut [68] from 54 to 67 (fun x wx => x = .bool false ∧ wx = w4)
  case first =>
    clear q8 q10
    rcases HBB.out with ⟨rfl, rfl, rfl⟩ | ⟨rfl, p, q, rfl, rfl⟩
    · go_wp2_with fail
      go_meet
      exact ⟨rfl, rfl⟩
    · go_wp2_with fail
      go_meet
      exact ⟨rfl, rfl⟩
  case rest =>
  obtain ⟨rfl, rfl⟩ := hcut
  clear q8 q10
  go_wp2_with fail
  go_loopw [15] (fun i wr => ∃ j : Nat, i = .int .i64 j ∧ j ≤ len ∧ Hid (Lap w w1.heap.size k fs a7 len v8 v10 j wr)) (fun i _ => len - (intOf i).toNat)
  case atStart => exact ⟨0, rfl, Nat.zero_le _, Lib.hid ⟨HS4.out, HM4.out, HB4.out⟩⟩
  case round =>
    obtain ⟨j, rfl, hj, HL⟩ := hrel
    clear HS4 HM4 HB4
    by_cases hlt : j < len
    · have h500 : len ≤ 500 := HN.out.2
      have hjn : (j : Int) < (len : Int) := by omega
      obtain ⟨bb, off, f, rfl, hff, d0, d1, d2⟩ := (HF.out.below HL.out.2.2).at hlt
      have HFF := Lib.hid hff
      obtain ⟨f0, f1, f2⟩ := f
      obtain ⟨g, rfl, e0, e1, e2, _⟩ := HL.out.round hlt (Below.refl _ _) hff
      simp only at d0 d1 d2 e0 e1 e2
      have m0 := bof_cell d0
      have m1 := bof_cell d1
      have m2 := bof_cell d2
      have k0 := bof_cell e0
      have k1 := bof_cell e1
      have k2 := bof_cell e2
      clear d0 d1 d2 e0 e1 e2 hff
      have q := fun W => run_neq_fate_same W (f0, f1, f2)
      simp only at q
      go_upto_region 12 with fail
      refine wp_region_bof (by kernel_rfl) (by kernel_rfl) ?_
      repeat (go_big_quiet_step (fail))
      refine wpQuiet_nil ?_
      intro W3 hw'
      have hb := bof_below hw'
      obtain ⟨g', hg', a0, a1, a2, z0, z1, z2, hL2⟩ := HL.out.round hlt hb HFF.out
      injection hg' with hg'
      injection hg' with hg'
      subst hg'
      have HL2 := Lib.hid hL2
      clear m0 m1 m2 k0 k1 k2 hw' q hb hL2
      go_wp2_with fail
      go_roundw
      case rel =>
        have h5 := HN.out.2
        exact ⟨j + 1, by go_num, by omega, HL2⟩
      case measure =>
        have h5 := HN.out.2
        simp [intOf]; omega
    · obtain rfl : j = len := by omega
      clear hlt hj
      rcases HBB.out with ⟨rfl, rfl, rfl⟩ | ⟨rfl, p, q, rfl, rfl⟩
      · go_wp2_with fail
        refine (HLV.out _).mono ?_; rintro e w9 ⟨rfl, hb9⟩
        have HB9 := Lib.hid (HL.out.2.2.trans (hb9.mono HL.out.2.2.size))
        clear hb9
        go_wp2_with fail
        go_ret
        exact ⟨rfl, HB9.out⟩
      · have HP : Hid (Play w wr p q 0) := Lib.hid (HL.out.2.1.play HB1.out.size HL.out.2.2 (by have := HFL.out; have := HN.out; omega))
        clear HL
        go_wp2_with fail
        clear HBB HFR HV7 HB1 HV HB23 HB3 HB14 HRUN
        go_loopw [8, 16, 17, 18, 19, 20, 21, 22, 23, 24] (fun n i _ _ _ _ _ _ _ _ wr => ∃ (j p' : Nat), n = .pointer (some ⟨p', 0, none⟩) ∧ i = .int .i64 j ∧ j ≤ len2 ∧ Hid (Play w wr p' q j)) (fun _ i _ _ _ _ _ _ _ _ _ => len2 - (intOf i).toNat)
        case atStart => exact ⟨0, p, rfl, rfl, Nat.zero_le _, HP⟩
        case round =>
          obtain ⟨j, p', rfl, rfl, hj, HPL⟩ := hrel
          clear HP
          by_cases hlt : j < len2
          · have h120 : len2 ≤ 120 := HN.out.1
            have hjn : (j : Int) < (len2 : Int) := by omega
            obtain ⟨bb, off, d, x, y, s, rfl, hss, c0, c1, c2, c3⟩ := (HSS.out.below HPL.out.base).at hlt
            have HSZ := Lib.hid hss
            clear hss
            go_upto_block 4 with fail
            have HST0 : Hid (StpAt (wr.alloc (.cells #[.int .i64 d, .int .i64 x, .int .i64 y, .string s] 46)) wr.heap.size d x y s) := Lib.hid (heap_alloc_new _ _)
            have HP0 := Lib.hid (HPL.out.below ((Below.refl _ _).alloc (Nat.le_refl _) (.cells #[.int .i64 d, .int .i64 x, .int .i64 y, .string s] 46)))
            obtain ⟨t, ht⟩ : ∃ t, wr.heap.size = t := ⟨_, rfl⟩
            obtain ⟨W0, hW0⟩ : ∃ W, wr.alloc (.cells #[.int .i64 d, .int .i64 x, .int .i64 y, .string s] 46) = W := ⟨_, rfl⟩
            rw [hW0, ht] at HST0
            rw [hW0] at HP0
            simp only [hW0, ht]
            clear hW0 ht HPL c0 c1 c2 c3
            go_cut [8, 18, 19, 20, 21, 22, 23, 24] from 91 to 196 (fun n _ _ _ _ _ _ _ wx => ∃ p2, n = .pointer (some ⟨p2, 0, none⟩) ∧ Hid (Play w wx p2 q (j + 1)))
            case first =>
              obtain ⟨σ, ρ, tw, hp, hn, hs, hl⟩ := HP0.out
              obtain ⟨s0, s1, s2, s3⟩ := HST0.out.get
              have HTW := Lib.hid tw
              have HPR := Lib.hid hp
              have HJ : Hid (σ.now ≤ j ∧ σ.sent ≤ j ∧ σ.fates.length ≤ 500 ∧ Small σ) := Lib.hid ⟨hn, hs, hl, by unfold Small; omega⟩
              clear tw hp hn hs hl
              by_cases hd0 : d = 0
              · subst hd0
                have HS := Lib.hid (pair_send x y s HSZ.out HJ.out.2.2.2 HPR.out)
                go_wp2_with fail
                refine HS.out.mono ?_; rintro e w2 ⟨v, rfl, hv, hp2, hk2⟩
                have HST2 := Lib.hid (HST0.out.kept hk2)
                have HP2 := Lib.hid hp2
                have HC := Lib.hid (code_sent _ w2 v hv (HH.out.below hp2.1.1))
                clear HS hv hp2 hk2 s0 s1 s2 s3
                go_wp2_with fail
                refine HC.out.mono ?_; rintro e w3 ⟨rfl, hb3⟩
                obtain ⟨s0, s1, s2, s3⟩ := (HST2.out.below hb3).get
                have HRS := Lib.hid (pair_rsend x y s HSZ.out HPR.out.1.2.1 HTW.out HJ.out.2.2.2 (HP2.out.below hb3))
                clear hb3 HC
                go_wp2_with fail
                refine HRS.out.mono ?_; rintro e w4 ⟨rfl, tw2, hp4, _⟩
                have HQ : Hid (Play w w4 p' q (j + 1)) := Lib.hid ⟨_, _, tw2, hp4, by have := send_now σ x y s; have := HJ.out; omega, by have := send_now σ x y s; have := HJ.out; omega, by rw [(send_now σ x y s).2.1]; exact HJ.out.2.2.1⟩
                clear tw2 hp4
                go_wp2_with fail
                go_meet
                exact ⟨p', rfl, HQ⟩
              by_cases hd1 : d = 1
              · subst hd1
                obtain ⟨⟨n0, n1, n2⟩, hnv⟩ : ∃ z : Pk, nextV σ.next.1 = .agg #[.int .i64 z.1, .int .i64 z.2.1, .string z.2.2] := by cases σ.next.1 with | none => exact ⟨(0, 0, ⟨#[]⟩), rfl⟩ | some z => exact ⟨z, rfl⟩
                obtain ⟨ok, hok⟩ : ∃ t, σ.next.1.isSome = t := ⟨_, rfl⟩
                have hnx := pair_next HPR.out
                have hrn := fun (W : World) (hb : Pair w W p' q σ.next.2 ρ) => pair_rnext HPR.out.1.2.1 HTW.out hb
                rw [hnv, hok] at hnx
                rw [hnv, hok] at hrn
                have HNX := Lib.hid hnx
                have HRNX := Lib.hid hrn
                clear hnv hok hnx hrn
                go_wp2_with fail
                refine HNX.out.mono ?_; rintro e w2 ⟨rfl, hp2, hk2⟩
                have HP2 := Lib.hid (hp2.below ((Below.refl _ _).alloc (Nat.le_refl _) (.cells #[.int .i64 n0, .int .i64 n1, .string n2] 31)))
                have HT2 : Hid (PkAt (w2.alloc (.cells #[.int .i64 n0, .int .i64 n1, .string n2] 31)) w2.heap.size (n0, n1, n2)) := Lib.hid (heap_alloc_new _ _)
                clear hp2 hk2 s0 s1 s2 s3
                go_wp2_with fail
                refine (HRNX.out _ HP2.out).mono ?_; rintro e w4 ⟨rfl, ⟨ρ', tw2, hp4⟩, hk4⟩
                have HT4 : Hid (PkAt w4 w2.heap.size (n0, n1, n2)) := Lib.hid (hk4 _ _ _ _ HT2.out (by decide) (by decide))
                have HQ : Hid (Play w w4 p' q (j + 1)) := Lib.hid ⟨_, _, tw2, hp4, by have := next_now σ; have := HJ.out; omega, by have := next_now σ; have := HJ.out; omega, by rw [(next_now σ).2.1]; exact HJ.out.2.2.1⟩
                have HT5 : Hid (PkAt (w4.alloc (.cells #[.int .i64 n0, .int .i64 n1, .string n2] 31)) w2.heap.size (n0, n1, n2)) := Lib.hid (HT4.out.kept (Kept.of_below ((Below.refl _ _).alloc (Nat.le_refl _) _)))
                have HQ5 := Lib.hid (HQ.out.below ((Below.refl _ _).alloc (Nat.le_refl _) (.cells #[.int .i64 n0, .int .i64 n1, .string n2] 31)))
                have y0 : (w4.alloc (.cells #[.int .i64 n0, .int .i64 n1, .string n2] 31)).cell? ⟨w2.heap.size, 0, none⟩ = some (.int .i64 n0) := by rw [cell_of_row _ _ 0 _ _ _ HT5.out]; rfl
                have y1 : (w4.alloc (.cells #[.int .i64 n0, .int .i64 n1, .string n2] 31)).cell? ⟨w2.heap.size, 1, none⟩ = some (.int .i64 n1) := by rw [cell_of_row _ _ 1 _ _ _ HT5.out]; rfl
                have y2 : (w4.alloc (.cells #[.int .i64 n0, .int .i64 n1, .string n2] 31)).cell? ⟨w2.heap.size, 2, none⟩ = some (.string n2) := by rw [cell_of_row _ _ 2 _ _ _ HT5.out]; rfl
                clear hp4 hk4 tw2
                go_wp2_with fail
                go_meet
                exact ⟨p', rfl, HQ5⟩
              by_cases hd2 : d = 2
              · subst hd2
                obtain ⟨r0, rf, hp1, r1⟩ := pair_rtick HPR.out
                have htk := fun (W : World) (hb : Pair w W p' q σ ρ.tick) => pair_tick HJ.out.2.2.2 hb
                have hnow := HTW.out.now
                obtain ⟨m, hm⟩ : ∃ m, σ.now = m := ⟨_, rfl⟩
                have hc : ((m + 1 : Nat) : Int) = (m : Int) + 1 := by omega
                rw [hnow, hm] at r0
                rw [hnow, hm, hc] at r1
                rw [hnow, hm, hc] at hp1
                rw [hm, hc] at htk
                have hm2 : m ≤ 120 := by have := HJ.out.1; omega
                have HP1 := Lib.hid hp1
                have HTK := Lib.hid htk
                have HM := Lib.hid hm
                clear hp1 htk s0 s1 s2 s3
                have hbd : Below (W0.setCell ⟨q, 1, none⟩ (.int .i64 ((m : Int) + 1))).heap.size (W0.setCell ⟨q, 1, none⟩ (.int .i64 ((m : Int) + 1))) (W0.setCell ⟨q, 1, none⟩ (.int .i64 ((m : Int) + 1))).drew := below_drewN (Below.refl _ _) 1
                have HPD := Lib.hid (HP1.out.below hbd)
                have HD : Hid ((W0.setCell ⟨q, 1, none⟩ (.int .i64 ((m : Int) + 1))).drew.cell? ⟨q, 1, none⟩ = some (.int .i64 ((m : Int) + 1))) := Lib.hid r1
                have HR2 : Hid (∀ W, Pair w W p' q σ.tick ρ.tick → W.cell? ⟨q, 1, none⟩ = some (.int .i64 ((m : Int) + 1))) := Lib.hid (fun W hb => by have h := hb.rnow; rw [show ρ.tick.now = ρ.now + 1 from rfl, hnow, hm, hc] at h; exact h)
                clear r1 hbd hnow hc hm
                go_upto_region 38 with fail
                have hD := HD.out
                go_region_held3 (fun w' => w'.cell? ⟨q, 1, none⟩ = some (.int .i64 ((m : Int) + 1)))
                  (first | exact hD | exact r2 | go_keep)
                  (first | (go_at_call 16; refine (HTK.out _ HPD.out).mono ?_; rintro e W2 ⟨rfl, hp2, hk2⟩; have r2 := HR2.out W2 hp2))
                all_goals (go_wp2_with fail)
                all_goals go_meet
                all_goals exact ⟨p', rfl, Lib.hid ⟨σ.tick, ρ.tick, HTW.out.tick, hp2, Nat.succ_le_succ HJ.out.1, Nat.le_trans HJ.out.2.1 (Nat.le_succ _), HJ.out.2.2.1⟩⟩
              by_cases hd3 : d = 3
              · subst hd3
                have hlo := fun (W : World) (hb : Pair w W p' q σ ρ) => pair_lose y hb
                have hrl := fun (W : World) (hb : Pair w W p' q (σ.lose y) ρ) => pair_rlose y HPR.out.1.2.1 HTW.out hb
                obtain ⟨z, hz⟩ : ∃ z : Int, (σ.way.length : Int) - (keep y σ.way).length = z := ⟨_, rfl⟩
                rw [hz] at hlo hrl
                have HPD := Lib.hid (HPR.out.below (below_drewN (Below.refl _ _) 1))
                have HLO : Hid (Calls Tryd.prog 10 #[.pointer (some ⟨p', 0, none⟩), .int .i64 y] W0.drew fun e w' => e = .returned (.int .i64 z) ∧ Pair w w' p' q (σ.lose y) ρ ∧ Kept W0.drew w') := Lib.hid (hlo W0.drew HPD.out)
                have HRL := Lib.hid hrl
                have HST1 : Hid (StpAt W0.drew t 3 x y s) := HST0
                have HS2 : Hid (∀ W, StpAt W t 3 x y s → W.cell? ⟨t, 2, none⟩ = some (.int .i64 y)) := Lib.hid (fun W h => h.get.2.2.1)
                clear hlo hrl hz s1 s3
                go_upto_region 41 with fail
                have hD : W0.drew.cell? ⟨t, 2, none⟩ = some (.int .i64 y) := s2
                go_region_held3 (fun w' => w'.cell? ⟨t, 2, none⟩ = some (.int .i64 y))
                  (first | exact hD | exact z2 | exact z3 | go_keep)
                  (first
                  | (go_at_call 10; refine HLO.out.mono ?_; rintro e W2 ⟨rfl, hp2, hk2⟩; have HK2 := Lib.hid (HST1.out.kept hk2); have z2 := HS2.out W2 HK2.out)
                  | (go_at_call 17; refine (HRL.out W2 hp2).mono ?_; rintro e W3 ⟨rfl, tw3, hp3, hk3⟩; have z3 := HS2.out W3 (HK2.out.rkept hk3)))
                all_goals (go_wp2_with fail)
                all_goals go_meet
                all_goals exact ⟨p', rfl, Lib.hid ⟨σ.lose y, ρ.lose y, tw3, hp3, Nat.le_trans HJ.out.1 (Nat.le_succ _), Nat.le_trans HJ.out.2.1 (Nat.le_succ _), HJ.out.2.2.1⟩⟩
              by_cases hd4 : d = 4
              · subst hd4
                have HCP := Lib.hid (play_copy (by omega) HP0.out)
                clear s1 s2 s3
                go_wp2_with fail
                refine HCP.out.mono ?_; rintro e w2 ⟨p2, rfl, hp2, _, _⟩
                have HQ : Hid (Play w w2 p2 q (j + 1)) := Lib.hid (hp2.later (by omega))
                clear hp2
                go_wp2_with fail
                go_meet
                exact ⟨p2, rfl, HQ⟩
              have HCP := Lib.hid (play_copy (by omega) HP0.out)
              clear s1 s2 s3
              go_wp2_with fail
              refine HCP.out.mono ?_; rintro e w2 ⟨p2, rfl, _, hcm, _⟩
              have HC2 := Lib.hid (copy_send 0 0 ⟨#[111, 116, 104, 101, 114]⟩ (by decide) hcm)
              clear hcm HCP
              go_wp2_with fail
              refine HC2.out.mono ?_; rintro e w3 ⟨v, rfl, hm⟩
              have HC3 := Lib.hid (copy_tick hm)
              clear hm HC2
              go_wp2_with fail
              refine HC3.out.mono ?_; rintro e w4 ⟨v2, rfl, hm⟩
              have HC4 := Lib.hid (copy_next hm)
              clear hm HC3
              go_wp2_with fail
              refine HC4.out.mono ?_; rintro e w5 ⟨v3, rfl, hm⟩
              have HC5 := Lib.hid (copy_lose 0 hm)
              clear hm HC4
              go_wp2_with fail
              refine HC5.out.mono ?_; rintro e w6 ⟨v4, rfl, hb⟩
              have HQ : Hid (Play w w6 p' q (j + 1)) := Lib.hid ((HP0.out.below hb).later (by omega))
              clear hb HC5
              go_wp2_with fail
              go_meet
              exact ⟨p', rfl, HQ⟩
            case rest =>
              obtain ⟨p2, rfl, HQ⟩ := hcut
              clear HST0 HP0
              go_wp2_with fail
              refine (play_stands HQ.out).mono ?_; rintro e w9 ⟨rfl, hp9⟩
              have HP9 := Lib.hid hp9
              clear hp9
              go_wp2_with fail
              go_roundw
              case rel => exact ⟨j + 1, p2, rfl, by go_num, by omega, HP9⟩
              case measure => simp [intOf]; omega
          · obtain rfl : j = len2 := by omega
            clear hlt hj
            go_wp2_with fail
            refine (HLV.out _).mono ?_; rintro e w9 ⟨rfl, hb9⟩
            have HB9 := Lib.hid (HPL.out.base.trans (hb9.mono HPL.out.base.size))
            clear hb9
            go_wp2_with fail
            go_ret
            exact ⟨rfl, HB9.out⟩
end Go.Proofs.YtbmlgnmilolamaaDoor
