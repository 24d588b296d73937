import Derived.Test.YthimmdaefmbcjaaDoorFrameFrontsW
import Derived.Test.YthimmdaefmbcjaaDoorTornPlain
import Derived.Test.YthimmdaefmbcjaaDoorNumsW
namespace Go.Proofs.YthimmdaefmbcjaaDoor
open Go.RowKit
noncomputable def endsL (ps : List (List UInt8)) (k : Nat) : List Nat := (List.range k).map fun j => endAt ps (j + 1)
theorem endsL_length (ps : List (List UInt8)) (k : Nat) : (endsL ps k).length = k := by simp [endsL]
theorem endsL_succ (ps : List (List UInt8)) (k : Nat) : endsL ps (k + 1) = endsL ps k ++ [endAt ps (k + 1)] := by simp [endsL, List.range_succ]
theorem endsL_get (ps : List (List UInt8)) (N k x : Nat) (h : k < N) (hx : (endsL ps N)[k]? = some x) : x = endAt ps (k + 1) := by
  simp [endsL, h] at hx
  exact hx.symm
theorem same_item (ss : List ByteArray) (j i : Nat) (x x2 : ByteArray) (h1 : (baL ((ss.map fun s => s.data.toList).take j))[i]? = some x) (h2 : ss[i]? = some x2) : x = x2 := by
  rw [baL, List.getElem?_map, List.getElem?_take] at h1
  split at h1
  · rw [List.getElem?_map, h2, Option.map_some, Option.map_some, Option.some.injEq] at h1
    rw [← h1, ba_data]
  · cases h1
theorem endAt_take (ps : List (List UInt8)) (k j : Nat) (h : j ≤ k) : endAt (ps.take k) j = endAt ps j := by rw [endAt, endAt, List.take_take, Nat.min_eq_left h]
theorem torn_all (ps : List (List UInt8)) (k : Nat) (X T : ByteArray) (hX : X.data.toList = cat (ps.take k)) (hk : k ≤ ps.length) (hp : ∀ p ∈ ps.take k, p.length ≤ 131072) (ct : Nat) (hct : ct ≤ X.size) (hT : T = X.extract 0 ct) (j : Nat) (hj : j ≤ k) (hc : endAt ps j ≤ ct) (hx : j < k → ct < endAt ps (j + 1)) :
    allL T.data.toList = (ps.take j, endAt ps j, if endAt ps j = ct then 0 else 40) := by
  have hl : (ps.take k).length = k := by rw [List.length_take]; omega
  have h := torn (ps.take k) hp ct (by rw [← hX, ba_len]; exact hct) j (by omega) (by rw [endAt_take ps k j hj]; exact hc) (by
    intro hlt
    rw [endAt_take ps k (j + 1) (by omega)]
    exact hx (by omega))
  rw [endAt_take ps k j hj, List.take_take, Nat.min_eq_left hj] at h
  rw [hT, Lib.extract_data, hX]
  simpa using h
def TornAll (j e ct : Nat) (L : List ByteArray) (w : World) (o : Ending) (w' : World) : Prop :=
  ∃ a cap, Below w.heap.size w w' ∧ StrRow w' a j L ∧ ((e = ct ∧ o = .returned (.tuple #[.slice a j cap, .int .i64 e, .nilIface])) ∨ (e ≠ ct ∧ ∃ b, o = .returned (.tuple #[.slice a j cap, .int .i64 e, .iface 58 (.pointer (some ⟨b, 0, none⟩))]) ∧ FaultAt w' b 40 e))
theorem All_torn (T : ByteArray) (w : World) (hs : T.size ≤ 140737488351232) (qs : List (List UInt8)) (j e ct : Nat) (h : allL T.data.toList = (qs, e, if e = ct then 0 else 40)) (hj : qs.length = j) :
    Calls Tryd.prog 16 #[.string T] w (TornAll j e ct (baL qs) w) := by
  refine (All_u T w hs).mono ?_
  rintro o w' ⟨E, a, cap, rfl, hE, hb, hr, _, _⟩
  rw [h] at hE hr ⊢
  have hl : (baL qs).length = j := by simp [baL, hj]
  simp only [hl] at hr ⊢
  refine ⟨a, cap, hb, hr, ?_⟩
  by_cases he : e = ct
  · rw [if_pos he] at hE
    rcases hE with ⟨_, rfl⟩ | ⟨h0, _⟩
    · exact .inl ⟨he, rfl⟩
    · exact absurd rfl h0
  · rw [if_neg he] at hE
    rcases hE with ⟨h0, _⟩ | ⟨_, _, b, rfl, hF⟩
    · cases h0
    · exact .inr ⟨he, b, rfl, hF⟩
set_option maxHeartbeats 4000000 in
set_option maxRecDepth 100000 in
theorem FrameTorn_walk (a : Option Addr) (len cap : Nat) (ss : List ByteArray) (cut : Int) (w : World) (hr : StrRow w a len ss) (_hcap : len * 16 ≤ 140737488351232) (hs : ∀ s ∈ ss, s.size ≤ 140737488351232) (hT : TabAny w) (hH : Handle w) :
    Calls Tryd.prog 7 #[.slice a len cap, .int .i64 cut] w fun e w' => e = .returned (.bool true) ∧ Below w.heap.size w w' := by
  obtain ⟨ps, hps⟩ : ∃ ps, ss.map (fun s => s.data.toList) = ps := ⟨_, rfl⟩
  obtain ⟨m, hm⟩ := Int.eq_ofNat_of_zero_le (show 0 ≤ cut % 16777216 by omega)
  have hcut : bits .and .i64 cut 16777215 = (m : Int) := by rw [i64_and24, hm]
  have hm2 : m < 16777216 := by omega
  have HR := Lib.hid hr
  have HS := Lib.hid hs
  have HP := Lib.hid hps
  have HT := Lib.hid hT
  have HH := Lib.hid hH
  clear hr hs hps hT hH hm
  go_enter Tryd.func7, Tryd.ntmps7
  go_wp2_with fail
  go_loopw [5, 6, 7] (fun s v i wr => ∃ (V : Value) (X : ByteArray) (k : Nat), V = v ∧ s = .string X ∧ i = .int .i64 k ∧ k ≤ len ∧ k ≤ 40 ∧ X.size ≤ 151084 ∧ Hid (X.data.toList = cat (ps.take k)) ∧ Hid (Nums wr w.heap.size V (endsL ps k)) ∧ Hid (∀ p ∈ ps.take k, p.length ≤ 131072) ∧ Below w.heap.size w wr) (fun _ _ i _ => len - (intOf i).toNat)
  case atStart => exact ⟨_, _, 0, rfl, rfl, rfl, Nat.zero_le _, by decide, by decide, Lib.hid rfl, Lib.hid (Nums.nil _ _), Lib.hid (by simp), Below.refl _ _⟩
  case round =>
    obtain ⟨V, X, k, rfl, rfl, rfl, hk, hk40, hX, HX, HV, HM, hb⟩ := hrel
    go_upto_region 4 with fail
    go_cut [28] from 16 to 27 (fun c wc => (∃ B : Bool, c = .bool B ∧ Hid (B = true ↔ (k < len ∧ k < 40 ∧ X.size < 20000))) ∧ wr = wc)
    case first =>
      by_cases h1 : k < len
      · by_cases h2 : k < 40
        · go_wp2_with fail
          go_meet
          exact ⟨⟨_, rfl, Lib.hid (by rw [decide_eq_true_iff]; omega)⟩, rfl⟩
        · go_wp2_with fail
          go_meet
          exact ⟨⟨_, rfl, Lib.hid ⟨fun hh => (by cases hh), fun hh => absurd hh.2.1 h2⟩⟩, rfl⟩
      · go_wp2_with fail
        go_meet
        exact ⟨⟨_, rfl, Lib.hid ⟨fun hh => (by cases hh), fun hh => absurd hh.1 h1⟩⟩, rfl⟩
    case rest =>
      obtain ⟨⟨B, rfl, HB⟩, rfl⟩ := hcut
      cases B with
      | true =>
        obtain ⟨h1, h2, h3⟩ := HB.out.1 rfl
        clear HB
        obtain ⟨b, off, x, rfl, hc, Hx, Hs⟩ := (HR.out.below hb).item k h1
        have hxs : x.size ≤ 140737488351232 := HS.out x (List.mem_of_getElem? Hx.out)
        have HPK : Hid (ps[k]? = some x.data.toList) := Lib.hid (by rw [← HP.out, List.getElem?_map, Hx.out]; rfl)
        have HO := Lib.hid (Of_frame x wr hxs)
        go_wp2_with fail
        refine HO.out.mono ?_; rintro e w1 (⟨hs, rfl, hb1⟩ | ⟨hs, bb, rfl, hF, hb1⟩)
        · obtain ⟨r, hr⟩ : ∃ r, (⟨(recL x.data.toList).toArray⟩ : ByteArray) = r := ⟨_, rfl⟩
          have hrz : r.size = 12 + x.size := by rw [← hr, ba_size, recL_length, ba_len]
          obtain ⟨hkp, hpk⟩ : ∃ h : k < ps.length, ps[k] = x.data.toList := List.getElem?_eq_some_iff.1 HPK.out
          obtain ⟨Y, hY⟩ : ∃ Y, X ++ r = Y := ⟨_, rfl⟩
          have hYz : Y.size = X.size + 12 + x.size := by rw [← hY, ByteArray.size_append, hrz]; omega
          have hYl : Y.data.toList = cat (ps.take (k + 1)) := by rw [← hY, ByteArray.data_append, Array.toList_append, HX.out, ← hr, cat_snoc ps k hkp, hpk]
          have hYe : endAt ps (k + 1) = Y.size := by rw [endAt, ← hYl, ba_len]
          have hB1 := hb.trans (hb1.mono hb.size)
          obtain ⟨v', w2, hap, hV2, hb2⟩ := nums_append w1 w.heap.size V (endsL ps k) Y.size (HV.out.below hb1) (by rw [endsL_length]; omega) hB1.size
          rw [← hYe, ← endsL_succ] at hV2
          have HA := Lib.hid hap
          have HV2 := Lib.hid hV2
          have HY := Lib.hid hYl
          have HM2 : Hid (∀ p ∈ ps.take (k + 1), p.length ≤ 131072) := Lib.hid (by
            intro p hp
            rw [← List.take_append_getElem hkp] at hp
            rcases List.mem_append.1 hp with hp | hp
            · exact HM.out p hp
            · simp at hp
              rw [hp, hpk, ba_len]
              exact hs)
          have hB2 := hB1.trans hb2
          rw [hr]
          have hY15 : Y.size ≤ 151084 := by omega
          clear hr hpk hYl hYe hap hV2 hkp hYz
          go_wp2_with (at_builtin; refine wpList_append_run rfl _ _ 44 44 rfl _ _ rfl rfl HA.out ?_)
          go_roundw
          case rel => exact ⟨_, Y, k + 1, rfl, rfl, by go_num, by omega, by omega, by omega, HY, HV2, HM2, hB2⟩
          case measure => simp [intOf]; omega
        · have HF := Lib.hid hF
          have hB1 := hb.trans (hb1.mono hb.size)
          have hc1 : w1.cell? ⟨b, off + k, none⟩ = some (.string x) := by rw [hb1.cell (p := ⟨b, off + k, none⟩) (World.block_lt_of_cell? _ _ hc)]; exact hc
          clear hF
          go_wp2_with fail
          refine (alive_any _ (HT.out.below hB1) (HH.out.below hB1)).mono ?_; rintro e w3 ⟨rfl, hb3⟩
          go_wp2_with fail
          go_ret
          exact ⟨rfl, hB1.trans (hb3.mono hB1.size)⟩
      | false =>
        obtain ⟨av, cv, hv, hnr⟩ := HV.out.row
        rw [endsL_length] at hv hnr
        subst hv
        have HNR := Lib.hid hnr
        obtain ⟨ct, hct⟩ : ∃ ct, ct = m % (X.size + 1) := ⟨_, rfl⟩
        have hct2 : ct ≤ X.size := by have := Nat.mod_lt m (show 0 < X.size + 1 by omega); omega
        have hmod : (m : Int) % ((X.size : Int) + 1) = (ct : Int) := by
          rw [hct, show ((X.size : Int) + 1) = ((X.size + 1 : Nat) : Int) by omega]; exact (Int.natCast_emod m (X.size + 1)).symm
        have hkl : k ≤ ps.length := by rw [← HP.out, List.length_map, HR.out.1]; exact hk
        obtain ⟨T, hT⟩ : ∃ T, X.extract 0 ct = T := ⟨_, rfl⟩
        have hTz : T.size ≤ 140737488351232 := by rw [← hT, ByteArray.size_extract]; omega
        have HA := Lib.hid (fun j hj hc hx => torn_all ps k X T HX.out hkl HM.out ct hct2 hT.symm j hj hc hx)
        have HKL := Lib.hid hkl
        clear hnr hct hkl HB
        go_upto_region 11 with fail
        go_cut [1] from 58 to 63 (fun c wc => c = .int .i64 ct ∧ wr = wc)
        case first =>
          go_wp2_with fail
          go_meet
          exact ⟨congrArg (Value.int .i64) hmod, rfl⟩
        obtain ⟨rfl, rfl⟩ := hcut
        clear hmod
        go_wp2_with fail
        go_loop [10, 11] (fun n e => ∃ j e' : Nat, j ≤ k ∧ n = .int .i64 j ∧ e = .int .i64 e' ∧ e' ≤ ct ∧ Hid (e' = endAt ps j)) (fun n _ => k - (intOf n).toNat)
        case atStart => exact ⟨0, 0, Nat.zero_le _, rfl, rfl, Nat.zero_le _, Lib.hid rfl⟩
        case round =>
          obtain ⟨j, e', hj, rfl, rfl, he', HE⟩ := hrel
          go_upto_region 13 with fail
          go_cut [75] from 64 to 74 (fun c wc => (∃ B : Bool, c = .bool B ∧ Hid (B = true ↔ (j < k ∧ endAt ps (j + 1) ≤ ct))) ∧ wr = wc)
          case first =>
            by_cases h1 : j < k
            · obtain ⟨b, off, x, rfl, hc, Hx⟩ := HNR.out.item j h1
              have HXE := Lib.hid (endsL_get ps k j x h1 Hx.out)
              go_wp2_with fail
              go_meet
              exact ⟨⟨_, rfl, Lib.hid (by rw [decide_eq_true_iff, ← HXE.out]; omega)⟩, rfl⟩
            · go_wp2_with fail
              go_meet
              exact ⟨⟨_, rfl, Lib.hid ⟨fun hh => (by cases hh), fun hh => absurd hh.1 h1⟩⟩, rfl⟩
          case rest =>
            obtain ⟨⟨B, rfl, HB⟩, rfl⟩ := hcut
            cases B with
            | true =>
              obtain ⟨h1, h2⟩ := HB.out.1 rfl
              clear HB
              obtain ⟨b, off, x, rfl, hc, Hx⟩ := HNR.out.item j h1
              have hxe := endsL_get ps k j x h1 Hx.out
              have hxc : x ≤ ct := by omega
              have HXE := Lib.hid hxe
              clear hxe
              go_wp2_with fail
              go_round
              case rel => exact ⟨j + 1, x, by omega, by go_num, rfl, hxc, HXE⟩
              case measure => simp [intOf]; omega
            | false =>
              have hA := HA.out j hj (by rw [← HE.out]; exact he') (by
                intro hlt
                apply Decidable.byContradiction
                intro hge
                have := HB.out.2 ⟨hlt, by omega⟩
                cases this)
              rw [← HE.out] at hA
              have hjl : (ps.take j).length = j := by rw [List.length_take]; have := HKL.out; omega
              have HAT := Lib.hid (All_torn T wr hTz _ j e' ct hA hjl)
              clear hA hjl HB HA
              go_wp2_with fail
              refine HAT.out.mono ?_; rintro o w1 ⟨a3, cap3, hb1, hr3, h⟩
              have hB1 := hb.trans (hb1.mono hb.size)
              have HR3 := Lib.hid hr3
              have HRW := Lib.hid (HR.out.below hB1)
              clear hr3
              rcases h with ⟨hec, rfl⟩ | ⟨hec, bb, rfl, hF⟩
              · have hec2 : ((ct : Int) == (e' : Int)) = true := by rw [hec]; exact beq_self_eq_true _
                go_wp2_with fail
                go_loopw [15] (fun i wr => ∃ q nd : Nat, q ≤ j ∧ i = .int .i64 q ∧ wr = w1.drewN nd) (fun i _ => j - (intOf i).toNat)
                case atStart => exact ⟨0, 0, Nat.zero_le _, rfl, rfl⟩
                case round =>
                  obtain ⟨q, nd, hq, rfl, rfl⟩ := hrel
                  by_cases hlt : q < j
                  · obtain ⟨b, off, x, rfl, hc, Hx, Hs⟩ := HR3.out.item q hlt
                    obtain ⟨b2, off2, x2, rfl, hc2, Hx2, Hs2⟩ := HRW.out.item q (by omega)
                    obtain rfl : x = x2 := same_item ss j q x x2 (by rw [HP.out]; exact Hx.out) Hx2.out
                    go_wp2_with fail
                    go_quiet (fail)
                    go_wp2_with fail
                    go_roundw
                    case rel => exact ⟨q + 1, _, by omega, by go_num, rfl⟩
                    case measure => simp [intOf]; omega
                  · have hB7 := below_drewN hB1 nd
                    go_wp2_with fail
                    refine (alive_any _ (HT.out.below hB7) (HH.out.below hB7)).mono ?_; rintro e w7 ⟨rfl, hb7⟩
                    go_wp2_with fail
                    go_ret
                    exact ⟨rfl, hB7.trans (hb7.mono hB7.size)⟩
              · have hec2 : ((ct : Int) == (e' : Int)) = false := beq_eq_false_iff_ne.2 (by omega)
                have HF := Lib.hid hF
                clear hF
                go_wp2_with fail
                go_loopw [15] (fun i wr => ∃ q nd : Nat, q ≤ j ∧ i = .int .i64 q ∧ wr = w1.drewN nd) (fun i _ => j - (intOf i).toNat)
                case atStart => exact ⟨0, 0, Nat.zero_le _, rfl, rfl⟩
                case round =>
                  obtain ⟨q, nd, hq, rfl, rfl⟩ := hrel
                  by_cases hlt : q < j
                  · obtain ⟨b, off, x, rfl, hc, Hx, Hs⟩ := HR3.out.item q hlt
                    obtain ⟨b2, off2, x2, rfl, hc2, Hx2, Hs2⟩ := HRW.out.item q (by omega)
                    obtain rfl : x = x2 := same_item ss j q x x2 (by rw [HP.out]; exact Hx.out) Hx2.out
                    go_wp2_with fail
                    go_quiet (fail)
                    go_wp2_with fail
                    go_roundw
                    case rel => exact ⟨q + 1, _, by omega, by go_num, rfl⟩
                    case measure => simp [intOf]; omega
                  · have hB7 := below_drewN hB1 nd
                    go_wp2_with fail
                    refine (is_err bb 40 e' (by decide) (by decide) (by omega) _ (HF.out.below (below_drewN (Below.refl _ _) nd)) (HT.out.below hB7) (HH.out.below hB7)).mono ?_; rintro e w8 ⟨rfl, hb8⟩
                    have hB8 := hB7.trans (hb8.mono hB7.size)
                    go_wp2_with fail
                    refine (alive_any _ (HT.out.below hB8) (HH.out.below hB8)).mono ?_; rintro e w9 ⟨rfl, hb9⟩
                    go_wp2_with fail
                    go_ret
                    exact ⟨rfl, hB8.trans (hb9.mono hB8.size)⟩
end Go.Proofs.YthimmdaefmbcjaaDoor
