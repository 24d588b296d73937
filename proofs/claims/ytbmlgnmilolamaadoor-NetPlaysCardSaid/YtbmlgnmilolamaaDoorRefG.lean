/-
  The document's Send. No statement is proved here.
-/
import Derived.Test.YtbmlgnmilolamaaDoorTwin
import Derived.Deep.RegionHeld3
import Derived.Shelf.Spec.SlicesInsert
namespace Go.Proofs.YtbmlgnmilolamaaDoor
open Go.RowKit
theorem step_append_runI {P : Program} {ops : Array Oper} {o : Oper} {a : Act} {w : World} {K : Act → World → Prop} {Q : Exit → Act → World → Prop} {E : Prop}
    (hg : o.guard = none) (d x : Operand) (dT sT : TypeId) (hop : o.op = Op.call { callee := Callee.builtin Builtin.append, args := #[d, x], argTypes := #[dT, sT] })
    (v u : Value) (hd : a.eval d = v) (hx : a.eval x = u) {v' : Value} {w' : World} (hr : (Builtin.append_ #[dT, sT] o.type #[v, u]).run P w = .ok v' w') (hK : K (a.put o.dst v') w') :
    if Region.wanted o (yielded ops a.tmps) = true then Oper.wp P o a w K Q else E := by
  have hw : Region.wanted o (yielded ops a.tmps) = true := by simp [Region.wanted, hg]
  rw [if_pos hw]
  unfold Oper.wp
  simp [execOp, hop, resolve, invoke, builtin, hd, hx, hr, Result.andThen]
  exact hK
/-- What stands in a cell, unread. -/
def cellV (w : World) (a : Addr) : Value := (w.cell? a).getD (.int .i64 0)
theorem cellV_some {w : World} {a : Addr} {v : Value} (h : w.cell? a = some v) : w.cell? a = some (cellV w a) := by rw [cellV, h]; rfl
theorem cellV_eq {w : World} {a : Addr} {v : Value} (h : w.cell? a = some v) : cellV w a = v := by rw [cellV, h]; rfl
theorem news_block {w : World} {b : Nat} {cs : Array Value} {t : TypeId} {fr : Nat × Nat} (h : w.heap[b]? = some (.cells cs t fr)) : ∀ j u, cs.toList[j]? = some u → w.cell? ((⟨b, 0, none⟩ : Addr).add j) = some u := fun j u hu => by
  rw [show (⟨b, 0, none⟩ : Addr).add j = ⟨b, j, none⟩ by unfold Addr.add; split <;> simp_all, cell_of_row w b j cs _ _ h, ← Array.getElem?_toList]
  exact hu
def RSendIs (r : Nat × NetS) (w : World) (p : Nat) (fv wv : Value) (e : Ending) (w' : World) : Prop :=
  RefTo w p fv wv r.2 w' ∧ e = .returned (.int .i64 r.1)
set_option maxHeartbeats 40000000 in
set_option maxRecDepth 100000 in
theorem rSend_go (ρ : NetS) (hlen : ρ.way.length ≤ 4096) (hfk : ρ.fate.2.1 ≤ 3 ∧ ρ.fate.2.2 ≤ 100) (hnow : ρ.now < 1125899906842624) (hsent : ρ.sent < 1125899906842624) (x y : Int) (s : ByteArray) (p : Nat) (fv wv : Value) (w : World) (h : RefAt w p fv wv ρ) (hx : ρ.isEnd x) (hy : ρ.isEnd y) (hl : s.size ≤ 1048576) :
    Calls Tryd.prog 14 #[.pointer (some ⟨p, 0, none⟩), .int .i64 x, .int .i64 y, .string s] w (RSendIs (if ρ.fate.1 = true then (0, { ρ with sent := ρ.sent + 1 })
      else if 4096 < ρ.way.length + ρ.fate.2.1 + 1 then (4, ρ)
      else (0, { ρ with sent := ρ.sent + 1, way := ρ.lays ρ.fate (x, y, s) (ρ.fate.2.1 + 1) })) w p fv wv) := by
  have HN := Lib.hid h
  have H2 := rend_at h x
  have H3 := rend_at h y
  rw [decide_eq_true hx] at H2
  rw [decide_eq_true hy] at H3
  have H2 := Lib.hid H2
  have H3 := Lib.hid H3
  obtain ⟨R, hR⟩ : ∃ R, (if ρ.fate.1 = true then (0, { ρ with sent := ρ.sent + 1 })
      else if 4096 < ρ.way.length + ρ.fate.2.1 + 1 then (4, ρ)
      else (0, { ρ with sent := ρ.sent + 1, way := ρ.lays ρ.fate (x, y, s) (ρ.fate.2.1 + 1) }) : Nat × NetS) = R := ⟨_, rfl⟩
  have HR := Lib.hid hR
  rw [hR]
  obtain ⟨fa, fcap, rfl, hfc, hfm, hfv⟩ := fate_view h.hf
  have HFV := Lib.hid hfv
  obtain ⟨wa, wcap, rfl, hwc, hwm, _⟩ := rway_view h.hw
  obtain ⟨m, hm⟩ : ∃ m, ρ.way.length = m := ⟨_, rfl⟩
  have HM := Lib.hid hm
  rw [hm] at HN ⊢
  have hmle : m ≤ 4096 := by rw [← hm]; exact hlen
  obtain ⟨n, hn⟩ : ∃ n, ρ.fates.length = n := ⟨_, rfl⟩
  have HNN := Lib.hid hn
  rw [hn] at HN ⊢
  have c2 : w.cell? ⟨p, 2, none⟩ = some (.int .i64 ρ.sent) := h.cell 2
  have c3 : w.cell? ⟨p, 3, none⟩ = some (.slice fa n fcap) := HN.out.cell 3
  have hpl := h.lt
  clear h hx hy hfv hlen hn hm hR hfc
  go_enter Tryd.func14, Tryd.ntmps14
  go_wp2_with fail
  refine H2.out.mono ?_; rintro e w' ⟨rfl, rfl⟩
  go_wp2_with fail
  refine H3.out.mono ?_; rintro e w' ⟨rfl, rfl⟩
  go_upto_region 6 with fail
  obtain ⟨W1, hW⟩ : ∃ W, w.alloc (.cells #[.bool false, .int .i64 0, .int .i64 0] 44) = W := ⟨_, rfl⟩
  have hF1 : FateAt w W1 w.heap.size (false, 0, 0) := by
    have hq : ∀ i v, (#[.bool false, .int .i64 0, .int .i64 0] : Array Value)[i]? = some v → W1.cell? ⟨w.heap.size, i, none⟩ = some v := fun i v h => by rw [← hW, World.cell?_alloc_mark]; exact h
    exact ⟨by rw [← hW]; exact (Below.refl _ _).alloc (Nat.le_refl _) _, ⟨by simpa using hq 0 _ rfl, hq 1 _ rfl, hq 2 _ rfl⟩, by rw [← hW, World.frozen?_alloc_mark]; rfl, by rw [← hW, World.frozen?_alloc_mark]; rfl, by rw [← hW, World.frozen?_alloc_mark]; rfl, Nat.le_refl _⟩
  rw [hW]
  obtain ⟨fb, hfb⟩ : ∃ b, w.heap.size = b := ⟨_, rfl⟩
  rw [hfb] at hF1
  simp only [hfb]
  have HF1 := Lib.hid hF1
  have d2 := (hF1.b.cell (p := ⟨p, 2, none⟩) hpl).trans c2
  have d3 := (hF1.b.cell (p := ⟨p, 3, none⟩) hpl).trans c3
  clear hW hfb c2 c3
  go_quiet (fail)
  go_upto_if 33 with fail
  go_cut [9, 33] from 34 to 43 (fun c _ wc => c = .pointer (some ⟨fb, 0, none⟩) ∧ Hid (FateAt w wc fb ρ.fate))
  case first =>
    by_cases hs : ρ.sent < n
    · have hd : decide ((ρ.sent : Int) < (n : Int)) = true := decide_eq_true (by omega)
      obtain ⟨g, rfl, hg⟩ := HFV.out (by have := HNN.out; omega)
      obtain ⟨f, hf⟩ : ∃ f, ρ.fates[ρ.sent]? = some f := ⟨_, List.getElem?_eq_getElem (by have := HNN.out; omega)⟩
      have hfa := (hg ρ.sent f hf).below HF1.out.b
      have hfe : ρ.fate = f := by unfold NetS.fate; rw [List.getD_eq_getElem?_getD, hf]; rfl
      have HFE := Lib.hid hfe
      obtain ⟨f0, f1, f2⟩ := f
      obtain ⟨a0, a1, a2⟩ := hfa
      obtain ⟨b0, b1, b2⟩ := hF1.c
      have k0 := hF1.f0
      have k1 := hF1.f1
      have k2 := hF1.f2
      simp only [Nat.zero_mul, Nat.zero_add] at b0 b1 b2
      have hsn : (ρ.sent : Int) < (n : Int) := by omega
      clear hg hf hfe hF1
      go_upto_region 7 with fail
      go_region
      go_wp2_with fail
      go_meet
      refine ⟨rfl, Lib.hid ?_⟩
      rw [HFE.out]
      exact (HF1.out.drewN _).put (f0, f1, f2)
    · have hd : decide ((ρ.sent : Int) < (n : Int)) = false := decide_eq_false (by omega)
      clear d2 d3
      have hfe : ρ.fate = (false, 0, 0) := by unfold NetS.fate; rw [List.getD_eq_getElem?_getD, List.getElem?_eq_none (by have := HNN.out; omega)]; rfl
      have HFE := Lib.hid hfe
      clear hfe hF1
      go_wp2_with fail
      go_meet
      exact ⟨rfl, Lib.hid (by rw [HFE.out]; exact HF1.out.drewN _)⟩
  case rest =>
    obtain ⟨rfl, HF⟩ := hcut
    clear HF1 hF1 d2 d3
    have hfo := hfk
    obtain ⟨f, hf⟩ : ∃ f, ρ.fate = f := ⟨_, rfl⟩
    have HFE := Lib.hid hf
    rw [hf] at HF hfo
    obtain ⟨f0, f1, f2⟩ := f
    obtain ⟨b0, b1, b2⟩ := HF.out.c
    simp only [Nat.zero_mul, Nat.zero_add] at b0 b1 b2 hfo
    have hRR := HR.out
    rw [hf] at hRR
    simp only at hRR
    have hnw := HN.out.below HF.out.b
    have c1 : wc.cell? ⟨p, 1, none⟩ = some (.int .i64 ρ.now) := hnw.cell 1
    have c2 : wc.cell? ⟨p, 2, none⟩ = some (.int .i64 ρ.sent) := hnw.cell 2
    have k2 : wc.frozen? ⟨p, 2, none⟩ = false := hnw.frozen 2
    have c4 : wc.cell? ⟨p, 4, none⟩ = some (.slice wa m wcap) := hnw.cell 4
    have HNW := Lib.hid hnw
    have hw1 : IntKind.i64.wrap ((ρ.sent : Int) + 1) = ((ρ.sent + 1 : Nat) : Int) := by rw [IntKind.wrap_i64]; omega
    clear hnw
    cases f0 with
    | true =>
      rw [if_pos rfl] at hRR
      have HRR := Lib.hid hRR
      clear hRR
      go_wp2_with fail
      go_ret
      rw [← HRR.out]
      exact ⟨HN.out.put 2 _ (.slice wa m wcap) { ρ with sent := ρ.sent + 1 } wc (Only.of_below HF.out.b) HNW.out.hp (by simp) HNW.out.hw rfl rfl (.inl rfl), rfl⟩
    | false =>
      rw [if_neg (by decide)] at hRR
      have HRR := Lib.hid hRR
      clear hRR
      by_cases hm : 4096 < m + f1 + 1
      · have hd : decide ((4096 : Int) < (m : Int) + (f1 : Int) + 1) = true := decide_eq_true (by omega)
        have hh := HRR.out
        rw [HM.out, if_pos hm] at hh
        have HRR2 := Lib.hid hh
        clear hh
        go_upto_region 11 with fail
        go_quiet (fail)
        go_wp2_with fail
        go_ret
        rw [← HRR2.out]
        exact ⟨RefTo.same HN.out (below_drewN HF.out.b _), rfl⟩
      · have hd : decide ((4096 : Int) < (m : Int) + (f1 : Int) + 1) = false := decide_eq_false (by omega)
        have hh := HRR.out
        rw [HM.out, if_neg hm] at hh
        have HRR2 := Lib.hid hh
        clear hh
        have hw2 : IntKind.i64.wrap ((f1 : Int) + 1) = ((f1 + 1 : Nat) : Int) := by rw [IntKind.wrap_i64]; omega
        go_upto_region 11 with fail
        go_quiet (fail)
        go_wp2_with fail
        have hfp : p ≠ fb := by have := HF.out.ge; omega
        have hfw : ¬ foot p (.slice wa m wcap) fb := fun h => by
          rcases h with h | h
          · exact hfp h.symm
          · have h2 := HN.out.hw.lt fb h
            have := HF.out.ge
            omega
        go_loopw [10] (fun i wr => ∃ k : Nat, k ≤ f1 + 1 ∧ i = .int .i64 k ∧ Hid (RefTo wc p (.slice fa n fcap) (.slice wa m wcap) { ρ with way := ρ.lays (false, f1, f2) (x, y, s) k } wr) ∧ wr.cell? ⟨fb, 1, none⟩ = some (.int .i64 f1) ∧ wr.cell? ⟨fb, 2, none⟩ = some (.int .i64 f2)) (fun i _ => f1 + 1 - (intOf i).toNat)
        case atStart => exact ⟨0, Nat.zero_le _, rfl, Lib.hid (RefTo.same HNW.out (below_drewN (Below.refl _ _) _)), b1, b2⟩
        case round =>
          obtain ⟨k, hk, rfl, HT, hB1, hB2⟩ := hrel
          obtain ⟨wv2, hN2, hO2, hfr2⟩ := HT.out
          obtain ⟨la, lcap, rfl, hlc, hlcm, _⟩ := rway_view hN2.hw
          have hll := lays_len ρ (false, f1, f2) (x, y, s) k
          rw [HM.out] at hll
          simp only [hll] at hN2 hO2 hfr2 hlc hlcm
          have HN2 := Lib.hid hN2
          have HO2 := Lib.hid hO2
          have HFR2 := Lib.hid hfr2
          have HLL := Lib.hid hll
          clear hll
          by_cases hlt : k < f1 + 1
          · have e1 : wr.cell? ⟨p, 1, none⟩ = some (.int .i64 ρ.now) := hN2.cell 1
            have e2 : wr.cell? ⟨p, 2, none⟩ = some (.int .i64 ρ.sent) := hN2.cell 2
            have e4 : wr.cell? ⟨p, 4, none⟩ = some (.slice la (m + k) lcap) := hN2.cell 4
            have hkf : (k : Int) ≤ (f1 : Int) := by omega
            clear hN2 hO2 hfr2 c1 c2 c4 b0 b1 b2 k2
            have hwa : IntKind.i64.wrap ((ρ.now : Int) + (f2 : Int)) = (ρ.now : Int) + (f2 : Int) := by rw [IntKind.wrap_i64]; omega
            have hwb : IntKind.i64.wrap ((ρ.now : Int) + (f2 : Int) + (k : Int)) = (ρ.now : Int) + (f2 : Int) + (k : Int) := by rw [IntKind.wrap_i64]; omega
            have hB12 : Hid (wr.heap.size = wr.heap.size) := Lib.hid rfl
            obtain ⟨i0, hi, hz0, hz1, hz2⟩ := info_parts info_rone
            obtain ⟨wd, hwd⟩ : ∃ W, wr.alloc (.cells #[.int .i64 ((ρ.now : Int) + (f2 : Int) + (k : Int)), .int .i64 ρ.sent, .int .i64 x, .int .i64 y, .string s] 78) = W := ⟨_, rfl⟩
            have hBd : Below wr.heap.size wr wd.drew := by rw [← hwd]; exact below_drewN ((Below.refl _ _).alloc (Nat.le_refl _) _) 1
            have hnews : ∀ j u, [Value.int .i64 ((ρ.now : Int) + (f2 : Int) + (k : Int)), .int .i64 ρ.sent, .int .i64 x, .int .i64 y, .string s][j]? = some u → wd.drew.cell? ((⟨wr.heap.size, 0, none⟩ : Addr).add j) = some u := news_block (cs := #[.int .i64 ((ρ.now : Int) + (f2 : Int) + (k : Int)), .int .i64 ρ.sent, .int .i64 x, .int .i64 y, .string s]) (t := 78) (fr := (0, 0)) (by rw [← hwd]; exact heap_alloc_new wr _)
            have hown := ownsRow_keep (S := fun _ => False) HN2.out.hw (Only.of_below hBd) (fun _ _ h => h)
            have hown2 : wd.drew.ownsRow 0 78 5 (.slice la (m + k) lcap) (m + k) (rowC unC (ρ.lays (false, f1, f2) (x, y, s) k)) := by
              have := hown
              simp only [HLL.out] at this
              exact this
            obtain ⟨v', w4, hrun, h2, h3, h4⟩ := append_row (P := Tryd.prog) wd.drew 48 48 78 i0 _ 5 48 Tryd.underlying48 hi hz0 hz1 hz2 rfl (by decide) _ _ _ hown2 ⟨wr.heap.size, 0, none⟩ 1 1 _ (by rfl) hnews (by simp [Value.oneCell']) (by unfold maxLen; omega) (by omega)
            obtain ⟨va, vc, rfl⟩ : ∃ a c, v' = .slice a (m + k + 1) c := by
              rcases h2.2 with ⟨rfl, h0⟩ | ⟨g, c, _, rfl, _⟩
              · exact ⟨none, 0, by rw [h0]⟩
              · exact ⟨_, _, rfl⟩
            have hO4 : Only (foot p (.slice la (m + k) lcap)) wr w4 := (Only.of_below (S := foot p (.slice la (m + k) lcap)) hBd).next (Only.of_grown h3 (fun i hi => .inr hi))
            have HO4 := Lib.hid hO4
            have hpn : ¬ (fun i => (Value.slice la (m + k) lcap).ownBlock = some i) p := HN2.out.way_ne
            have hO4' : Only (fun i => (Value.slice la (m + k) lcap).ownBlock = some i) wr w4 := (Only.of_below hBd).next (Only.of_grown h3 (fun i hi => hi))
            have hp4 := hO4'.heap HN2.out.hp hpn
            have HP4 := Lib.hid hp4
            have f4 : w4.frozen? ⟨p, 4, none⟩ = false := frozen_of_row w4 p 4 _ _ hp4
            have q1 : w4.cell? ⟨p, 1, none⟩ = some (.int .i64 ρ.now) := hO4'.cell e1 hpn
            have q2 : w4.cell? ⟨p, 2, none⟩ = some (.int .i64 ρ.sent) := hO4'.cell e2 hpn
            have q4 : w4.cell? ⟨p, 4, none⟩ = some (.slice la (m + k) lcap) := hO4'.cell e4 hpn
            have hfbw : ¬ (Value.slice la (m + k) lcap).ownBlock = some fb := fun hh => by
              rcases HFR2.out with h | h
              · exact hfw (.inr (h.symm.trans hh))
              · have := h fb hh
                have := World.block_lt_of_cell? wc _ HF.out.c.c0
                simp only at this
                omega
            have q3 : w4.cell? ⟨fb, 2, none⟩ = some (.int .i64 f2) := hO4'.cell hB2 hfbw
            have q5 : w4.cell? ⟨fb, 1, none⟩ = some (.int .i64 f1) := hO4'.cell hB1 hfbw
            have HROW := Lib.hid h2
            have H4 := Lib.hid h4
            have HBD := Lib.hid hBd.size
            have HQ : Hid (w4.cell? ⟨fb, 2, none⟩ = some (.int .i64 f2) ∧ w4.cell? ⟨fb, 1, none⟩ = some (.int .i64 f1)) := Lib.hid ⟨q3, q5⟩
            subst hwd
            clear hi hz0 hz1 hz2 hBd hnews hown hown2 h2 h3 h4 hO4 hO4' hp4
            have hrunT : ∀ W, W = (wr.alloc (.cells #[.int .i64 ((ρ.now : Int) + (f2 : Int) + (k : Int)), .int .i64 ρ.sent, .int .i64 x, .int .i64 y, .string s] 78)).drew → (Builtin.append_ #[48, 48] 48 #[.slice la (m + k) lcap, .slice (some ⟨wr.heap.size, 0, none⟩) 1 1]).run Tryd.prog W = .ok (.slice va (m + k + 1) vc) w4 := fun W hW => by rw [hW]; exact hrun
            have HRUN := Lib.hid hrunT
            clear hrun hrunT
            go_upto_region 16 with fail
            have HTo : Hid (RefTo wr p (.slice fa n fcap) (.slice la (m + k) lcap) { ρ with way := ρ.lays (false, f1, f2) (x, y, s) (k + 1) } (w4.setCell ⟨p, 4, none⟩ (.slice va (m + k + 1) vc))) := Lib.hid (by
              refine HN2.out.put 4 _ (.slice va (m + k + 1) vc) _ w4 HO4.out HP4.out (by simp) ?_ rfl rfl ?_
              · have hr := HROW.out
                have e1 : (ρ.lays (false, f1, f2) (x, y, s) (k + 1)).length = m + k + 1 := by rw [lays_len, HM.out]; omega
                show World.ownsRow _ 0 _ 5 _ (ρ.lays (false, f1, f2) (x, y, s) (k + 1)).length _
                rw [e1, NetS.lays, rowC_append]
                have e2 : rowC unC [((ρ.now + f2 + k, ρ.sent, x, y, s) : Un)] = [Value.int .i64 ((ρ.now : Int) + (f2 : Int) + (k : Int)), .int .i64 ρ.sent, .int .i64 x, .int .i64 y, .string s] := by
                  simp [rowC, unC]
                show World.ownsRow _ 0 _ 5 _ (m + k + 1) (_ ++ rowC unC [((ρ.now + f2 + k, ρ.sent, x, y, s) : Un)])
                rw [e2]
                exact hr
              · rcases H4.out with h | h
                · exact .inl h
                · exact .inr (fun i hi => Nat.le_trans HBD.out (h i hi)))
            have HT4 := Lib.hid (RefTo.trans HO2.out HFR2.out HTo.out)
            have HB12 : Hid ((w4.setCell ⟨p, 4, none⟩ (.slice va (m + k + 1) vc)).cell? ⟨fb, 1, none⟩ = some (.int .i64 f1) ∧ (w4.setCell ⟨p, 4, none⟩ (.slice va (m + k + 1) vc)).cell? ⟨fb, 2, none⟩ = some (.int .i64 f2)) := Lib.hid (by
              obtain ⟨_, _, hO6, _⟩ := HT4.out
              have hB1' := hO6.cell HF.out.c.c1 hfw
              have hB2' := hO6.cell HF.out.c.c2 hfw
              simp only [Nat.zero_mul, Nat.zero_add] at hB1' hB2'
              exact ⟨hB1', hB2'⟩)
            have hpl : p < wr.heap.size := World.block_lt_of_cell? wr _ e1
            have hfl : fb < wr.heap.size := World.block_lt_of_cell? wr _ hB2
            have hbz : Below wr.heap.size wr (wr.alloc (.cells #[.int .i64 ((ρ.now : Int) + (f2 : Int) + (k : Int)), .int .i64 ρ.sent, .int .i64 x, .int .i64 y, .string s] 78)).drew := below_drewN ((Below.refl _ _).alloc (Nat.le_refl _) _) 1
            have z4 := (hbz.cell (p := ⟨p, 4, none⟩) hpl).trans e4
            clear q1 q2 q3 q5 hbz hB1
            go_region_law (refine step_append_runI (by rfl) _ _ 48 48 (by rfl) (.slice la (m + k) lcap) (.slice (some ⟨wr.heap.size, 0, none⟩) 1 1) (by rfl) (by rfl) (HRUN.out _ (by rfl)) ?_)
            all_goals (go_wp2_with fail)
            all_goals go_roundw
            all_goals first | exact ⟨k + 1, by omega, by go_num, HT4, HB12.out.1, HB12.out.2⟩ | (simp [intOf]; omega)
          · obtain rfl : k = f1 + 1 := by omega
            have e2 : wr.cell? ⟨p, 2, none⟩ = some (.int .i64 ρ.sent) := hN2.cell 2
            have k2' : wr.frozen? ⟨p, 2, none⟩ = false := hN2.frozen 2
            have hkf : ¬ ((f1 + 1 : Nat) : Int) ≤ (f1 : Int) := by omega
            clear hN2 hO2 hfr2 c1 c2 c4 b0 b1 b2 k2
            go_wp2_with fail
            go_ret
            rw [← HRR2.out]
            refine ⟨?_, rfl⟩
            have hO5 : Only (foot p (.slice wa m wcap)) w wr := (Only.of_below (S := foot p (.slice wa m wcap)) HF.out.b).next HO2.out
            have hfr5 : (Value.slice la (m + (f1 + 1)) lcap).ownBlock = (Value.slice wa m wcap).ownBlock ∨ ∀ i, (Value.slice la (m + (f1 + 1)) lcap).ownBlock = some i → w.heap.size ≤ i := by
              rcases HFR2.out with h | h
              · exact .inl h
              · exact .inr (fun i hi => Nat.le_trans HF.out.b.size (h i hi))
            have hz := HN2.out.put (wv' := .slice la (m + (f1 + 1)) lcap) 2 (.int .i64 ((ρ.sent : Int) + 1)) { ρ with sent := ρ.sent + 1, way := ρ.lays (false, f1, f2) (x, y, s) (f1 + 1) } wr (Only.refl _ _) HN2.out.hp (by simp) HN2.out.hw rfl rfl (.inl rfl)
            exact RefTo.trans hO5 hfr5 hz
end Go.Proofs.YtbmlgnmilolamaaDoor
