/-
  Send. No statement is proved here.
-/
import Derived.Test.YtbmlgnmilolamaaNetD
namespace Go.Proofs.Ytbmlgnmilolamaa
open Go.RowKit
/-- A fate, in its cells. -/
structure FaAt (w : World) (g j : Nat) (f : Fa) : Prop where
  c0 : w.cell? ⟨g, j * 3, none⟩ = some (.bool f.1)
  c1 : w.cell? ⟨g, j * 3 + 1, none⟩ = some (.int .i64 f.2.1)
  c2 : w.cell? ⟨g, j * 3 + 2, none⟩ = some (.int .i64 f.2.2)
theorem FaAt.below {w w' : World} {g j : Nat} {f : Fa} (h : FaAt w g j f) (hb : Below w.heap.size w w') : FaAt w' g j f :=
  have hlt := World.block_lt_of_cell? w _ h.c0
  ⟨(hb.cell (p := ⟨g, j * 3, none⟩) hlt).trans h.c0, (hb.cell (p := ⟨g, j * 3 + 1, none⟩) hlt).trans h.c1, (hb.cell (p := ⟨g, j * 3 + 2, none⟩) hlt).trans h.c2⟩
theorem fate_view {w : World} {l : List Fa} {fv : Value} (h : w.ownsRow 0 24 3 fv l.length (rowC faC l)) :
    ∃ a cap, fv = .slice a l.length cap ∧ l.length ≤ cap ∧ cap ≤ maxLen ∧ (0 < l.length → ∃ g, a = some ⟨g, 0, none⟩ ∧ ∀ j y, l[j]? = some y → FaAt w g j y) := by
  rcases h.2 with ⟨rfl, h0⟩ | ⟨g, cap, cur, rfl, _, hg, h1, h2, h3, htake⟩
  · exact ⟨none, 0, by rw [h0], by omega, Nat.zero_le _, fun h => by omega⟩
  · refine ⟨some ⟨g, 0, none⟩, cap, rfl, h1, h2, fun _ => ⟨g, rfl, fun j y hy => ?_⟩⟩
    have key : ∀ i v, (faC y)[i]? = some v → w.cell? ⟨g, j * 3 + i, none⟩ = some v := fun i v hv => by
      have hr := rowC_at faC 3 faC_len l j i y v hy hv
      have hlt : j * 3 + i < l.length * 3 := by
        have := (List.getElem?_eq_some_iff.1 hr).1
        rw [rowC_length faC 3 faC_len] at this
        exact this
      rw [cell_of_row w g _ cur _ _ hg, ← Array.getElem?_toList]
      rw [← htake, List.getElem?_take, if_pos hlt] at hr
      exact hr
    exact ⟨key 0 _ rfl, key 1 _ rfl, key 2 _ rfl⟩
/-- What Send answers. -/
def SendIs (r : Nat × NetS) (w : World) (p : Nat) (fv wv : Value) (e : Ending) (w' : World) : Prop :=
  NetTo w p fv wv r.2 w' ∧ ((r.1 = 0 ∧ e = .returned .nilIface) ∨ (r.1 ≠ 0 ∧ ∃ b, e = .returned (.iface 58 (.pointer (some ⟨b, 0, none⟩))) ∧ FltAt w' b r.1 (-1)))
/-- The fate of this one, in a block of its own. -/
structure FateAt (w W : World) (fb : Nat) (f : Fa) : Prop where
  b : Below w.heap.size w W
  c : FaAt W fb 0 f
  f0 : W.frozen? ⟨fb, 0, none⟩ = false
  f1 : W.frozen? ⟨fb, 1, none⟩ = false
  f2 : W.frozen? ⟨fb, 2, none⟩ = false
  ge : w.heap.size ≤ fb
theorem FateAt.drewN {w W : World} {fb : Nat} {f : Fa} (h : FateAt w W fb f) (n : Nat) : FateAt w (W.drewN n) fb f := ⟨below_drewN h.b _, ⟨h.c.c0, h.c.c1, h.c.c2⟩, h.f0, h.f1, h.f2, h.ge⟩
theorem FateAt.put {w W : World} {fb : Nat} {f0 : Fa} (h : FateAt w W fb f0) (f : Fa) : FateAt w (((W.setCell ⟨fb, 0, none⟩ (.bool f.1)).setCell ⟨fb, 1, none⟩ (.int .i64 f.2.1)).setCell ⟨fb, 2, none⟩ (.int .i64 f.2.2)) fb f := by
  obtain ⟨a0, a1, a2⟩ := h.c
  simp only [Nat.zero_mul, Nat.zero_add] at a0 a1 a2
  have n01 : (⟨fb, 0, none⟩ : Addr) ≠ ⟨fb, 1, none⟩ := by simp
  have n02 : (⟨fb, 0, none⟩ : Addr) ≠ ⟨fb, 2, none⟩ := by simp
  have n12 : (⟨fb, 1, none⟩ : Addr) ≠ ⟨fb, 2, none⟩ := by simp
  refine ⟨((h.b.setCell h.ge _).setCell h.ge _).setCell h.ge _, ⟨?_, ?_, ?_⟩, by simpa using h.f0, by simpa using h.f1, by simpa using h.f2, h.ge⟩
  · rw [Nat.zero_mul, World.cell?_setCell_other _ _ _ _ n02.symm, World.cell?_setCell_other _ _ _ _ n01.symm, World.cell?_setCell_same _ _ _ a0]
  · rw [Nat.zero_mul, Nat.zero_add, World.cell?_setCell_other _ _ _ _ n12.symm, World.cell?_setCell_same (u := .int .i64 f0.2.1)]
    rw [World.cell?_setCell_other _ _ _ _ n01]
    exact a1
  · rw [Nat.zero_mul, Nat.zero_add, World.cell?_setCell_same (u := .int .i64 f0.2.2)]
    rw [World.cell?_setCell_other _ _ _ _ n12, World.cell?_setCell_other _ _ _ _ n02]
    exact a2
set_option maxHeartbeats 4000000 in
set_option maxRecDepth 100000 in
theorem Send_go (σ : NetS) (ok : NetOK σ) (hnow : σ.now < 1125899906842624) (hsent : σ.sent < 1125899906842624) (x y : Int) (s : ByteArray) (p : Nat) (fv wv : Value) (w : World) (h : NetAt w p fv wv σ) (hx : σ.isEnd x) (hy : σ.isEnd y) (hl : s.size ≤ 1048576) :
    Calls Try.prog 6 #[.pointer (some ⟨p, 0, none⟩), .int .i64 x, .int .i64 y, .string s] w (SendIs (if σ.fate.1 = true then (0, { σ with sent := σ.sent + 1 })
      else if 4096 < σ.way.length + σ.fate.2.1 + 1 then (4, σ)
      else (0, { σ with sent := σ.sent + 1, way := σ.lay σ.fate (x, y, s) (σ.fate.2.1 + 1) })) w p fv wv) := by
  have HN := Lib.hid h
  have HOK := Lib.hid ok
  have H1 := Lib.hid (none_at h)
  have H2 := end_at h x
  have H3 := end_at h y
  rw [decide_eq_true hx] at H2
  rw [decide_eq_true hy] at H3
  have H2 := Lib.hid H2
  have H3 := Lib.hid H3
  obtain ⟨R, hR⟩ : ∃ R, (if σ.fate.1 = true then (0, { σ with sent := σ.sent + 1 })
      else if 4096 < σ.way.length + σ.fate.2.1 + 1 then (4, σ)
      else (0, { σ with sent := σ.sent + 1, way := σ.lay σ.fate (x, y, s) (σ.fate.2.1 + 1) }) : Nat × NetS) = R := ⟨_, rfl⟩
  have HR := Lib.hid hR
  rw [hR]
  obtain ⟨fa, fcap, rfl, hfc, hfm, hfv⟩ := fate_view h.hf
  have HFV := Lib.hid hfv
  obtain ⟨wa, wcap, rfl, hwc, hwm, _⟩ := way_view h.hw
  obtain ⟨m, hm⟩ : ∃ m, σ.way.length = m := ⟨_, rfl⟩
  have HM := Lib.hid hm
  rw [hm] at HN ⊢
  have hmle : m ≤ 4096 := by rw [← hm]; exact ok.len
  obtain ⟨n, hn⟩ : ∃ n, σ.fates.length = n := ⟨_, rfl⟩
  have HNN := Lib.hid hn
  rw [hn] at HN ⊢
  have c2 : w.cell? ⟨p, 2, none⟩ = some (.int .i64 σ.sent) := h.cell 2
  have c3 : w.cell? ⟨p, 3, none⟩ = some (.slice fa n fcap) := HN.out.cell 3
  have hpl := h.lt
  clear h ok hx hy hfv hn hm hR hfc
  go_enter Try.func6, Try.ntmps6
  go_wp2_with fail
  refine H1.out.mono ?_; rintro e w' ⟨rfl, rfl⟩
  go_wp2_with fail
  refine H2.out.mono ?_; rintro e w' ⟨rfl, rfl⟩
  go_wp2_with fail
  refine H3.out.mono ?_; rintro e w' ⟨rfl, rfl⟩
  go_upto_region 8 with fail
  obtain ⟨W1, hW⟩ : ∃ W, w.alloc (.cells #[.bool false, .int .i64 0, .int .i64 0] 24) = W := ⟨_, rfl⟩
  have hF1 : FateAt w W1 w.heap.size (false, 0, 0) := by
    have hq : ∀ i v, (#[.bool false, .int .i64 0, .int .i64 0] : Array Value)[i]? = some v → W1.cell? ⟨w.heap.size, i, none⟩ = some v := fun i v h => by rw [← hW, World.cell?_alloc_mark]; exact h
    exact ⟨by rw [← hW]; exact (Below.refl _ _).alloc (Nat.le_refl _) _, ⟨by simpa using hq 0 _ rfl, hq 1 _ rfl, hq 2 _ rfl⟩, by rw [← hW, World.frozen?_alloc_mark]; rfl, by rw [← hW, World.frozen?_alloc_mark]; rfl, by rw [← hW, World.frozen?_alloc_mark]; rfl, Nat.le_refl _⟩
  rw [hW]
  obtain ⟨fb, hfb⟩ : ∃ b, w.heap.size = b := ⟨_, rfl⟩
  rw [hfb] at hF1
  simp only [hfb]
  have HF1 := Lib.hid hF1
  have d2 := (hF1.b.cell (p := ⟨p, 2, none⟩) hpl).trans c2
  have d3 := (hF1.b.cell (p := ⟨p, 3, none⟩) hpl).trans c3
  clear hW hfb c2 c3
  go_quiet (fail)
  go_upto_if 42 with fail
  go_cut [9, 42] from 43 to 52 (fun c _ wc => c = .pointer (some ⟨fb, 0, none⟩) ∧ Hid (FateAt w wc fb σ.fate))
  case first =>
    by_cases hs : σ.sent < n
    · have hd : decide ((σ.sent : Int) < (n : Int)) = true := decide_eq_true (by omega)
      obtain ⟨g, rfl, hg⟩ := HFV.out (by have := HNN.out; omega)
      obtain ⟨f, hf⟩ : ∃ f, σ.fates[σ.sent]? = some f := ⟨_, List.getElem?_eq_getElem (by have := HNN.out; omega)⟩
      have hfa := (hg σ.sent f hf).below HF1.out.b
      have hfe : σ.fate = f := by unfold NetS.fate; rw [List.getD_eq_getElem?_getD, hf]; rfl
      have HFE := Lib.hid hfe
      obtain ⟨f0, f1, f2⟩ := f
      obtain ⟨a0, a1, a2⟩ := hfa
      obtain ⟨b0, b1, b2⟩ := hF1.c
      have k0 := hF1.f0
      have k1 := hF1.f1
      have k2 := hF1.f2
      simp only [Nat.zero_mul, Nat.zero_add] at b0 b1 b2
      have hsn : (σ.sent : Int) < (n : Int) := by omega
      clear hg hf hfe hF1
      go_upto_region 9 with fail
      go_region
      go_wp2_with fail
      go_meet
      refine ⟨rfl, Lib.hid ?_⟩
      rw [HFE.out]
      exact (HF1.out.drewN _).put (f0, f1, f2)
    · have hd : decide ((σ.sent : Int) < (n : Int)) = false := decide_eq_false (by omega)
      clear d2 d3
      have hfe : σ.fate = (false, 0, 0) := by unfold NetS.fate; rw [List.getD_eq_getElem?_getD, List.getElem?_eq_none (by have := HNN.out; omega)]; rfl
      have HFE := Lib.hid hfe
      clear hfe hF1
      go_wp2_with fail
      go_meet
      exact ⟨rfl, Lib.hid (by rw [HFE.out]; exact HF1.out.drewN _)⟩
  case rest =>
    obtain ⟨rfl, HF⟩ := hcut
    clear HF1 hF1 d2 d3
    have hfo := fate_ok HOK.out
    obtain ⟨f, hf⟩ : ∃ f, σ.fate = f := ⟨_, rfl⟩
    have HFE := Lib.hid hf
    rw [hf] at HF hfo
    obtain ⟨f0, f1, f2⟩ := f
    obtain ⟨b0, b1, b2⟩ := HF.out.c
    simp only [Nat.zero_mul, Nat.zero_add] at b0 b1 b2 hfo
    have hRR := HR.out
    rw [hf] at hRR
    simp only at hRR
    have hnw := HN.out.below HF.out.b
    have c1 : wc.cell? ⟨p, 1, none⟩ = some (.int .i64 σ.now) := hnw.cell 1
    have c2 : wc.cell? ⟨p, 2, none⟩ = some (.int .i64 σ.sent) := hnw.cell 2
    have k2 : wc.frozen? ⟨p, 2, none⟩ = false := hnw.frozen 2
    have c4 : wc.cell? ⟨p, 4, none⟩ = some (.slice wa m wcap) := hnw.cell 4
    have HNW := Lib.hid hnw
    have hw1 : IntKind.i64.wrap ((σ.sent : Int) + 1) = ((σ.sent + 1 : Nat) : Int) := by rw [IntKind.wrap_i64]; omega
    clear hnw
    cases f0 with
    | true =>
      rw [if_pos rfl] at hRR
      have HRR := Lib.hid hRR
      clear hRR
      go_wp2_with fail
      go_ret
      rw [← HRR.out]
      exact ⟨HN.out.put 2 _ (.slice wa m wcap) { σ with sent := σ.sent + 1 } wc (Only.of_below HF.out.b) HNW.out.hp (by simp) HNW.out.hw rfl rfl (.inl rfl), .inl ⟨rfl, rfl⟩⟩
    | false =>
      rw [if_neg (by decide)] at hRR
      have HRR := Lib.hid hRR
      clear hRR
      by_cases hm : 4096 < m + f1 + 1
      · have hd : decide ((4096 : Int) < (m : Int) + (f1 : Int) + 1) = true := decide_eq_true (by omega)
        have hh := HRR.out
        rw [HM.out, if_pos hm] at hh
        have HRR2 := Lib.hid hh
        clear hh
        go_upto_region 11 with fail
        go_quiet (fail)
        go_wp2_with fail
        refine (nfault_any _ _ _).mono ?_; rintro e w1 ⟨b, rfl, hF, hb⟩
        have HF2 := Lib.hid hF
        clear hF
        go_wp2_with fail
        go_ret
        rw [← HRR2.out]
        exact ⟨NetTo.same HN.out (HF.out.b.trans ((below_drewN (Below.refl _ _) _).trans hb |>.mono HF.out.b.size)), .inr ⟨by show (4 : Nat) ≠ 0; decide, b, rfl, HF2.out⟩⟩
      · have hd : decide ((4096 : Int) < (m : Int) + (f1 : Int) + 1) = false := decide_eq_false (by omega)
        have hh := HRR.out
        rw [HM.out, if_neg hm] at hh
        have HRR2 := Lib.hid hh
        clear hh
        have hw2 : IntKind.i64.wrap ((f1 : Int) + 1) = ((f1 + 1 : Nat) : Int) := by rw [IntKind.wrap_i64]; omega
        go_upto_region 11 with fail
        go_quiet (fail)
        go_wp2_with fail
        have hfp : p ≠ fb := by have := HF.out.ge; omega
        have hfw : ¬ foot p (.slice wa m wcap) fb := fun h => by
          rcases h with h | h
          · exact hfp h.symm
          · have h2 := HN.out.hw.lt fb h
            have := HF.out.ge
            omega
        go_loopw [70] (fun i wr => ∃ k : Nat, k ≤ f1 + 1 ∧ i = .int .i64 k ∧ Hid (NetTo wc p (.slice fa n fcap) (.slice wa m wcap) { σ with way := σ.lay (false, f1, f2) (x, y, s) k } wr) ∧ Hid (wr.cell? ⟨fb, 2, none⟩ = some (.int .i64 f2))) (fun i _ => f1 + 1 - (intOf i).toNat)
        case atStart => exact ⟨0, Nat.zero_le _, rfl, Lib.hid (NetTo.same HNW.out (below_drewN (Below.refl _ _) _)), Lib.hid b2⟩
        case round =>
          obtain ⟨k, hk, rfl, HT, HB⟩ := hrel
          obtain ⟨wv2, hN2, hO2, hfr2⟩ := HT.out
          have HN2 := Lib.hid hN2
          have HO2 := Lib.hid hO2
          have HFR2 := Lib.hid hfr2
          by_cases hlt : k < f1 + 1
          · have hLo := lay_ok HOK.out (false, f1, f2) (x, y, s) hfo.2 k (by omega)
            have hlen := hLo.len
            have hm0 := HM.out
            have HL : Hid (∀ W, NetAt W p (.slice fa n fcap) wv2 { σ with way := σ.lay (false, f1, f2) (x, y, s) k } → Calls Try.prog 18 #[.pointer (some ⟨p, 0, none⟩), .agg #[.int .i64 ((σ.now : Int) + f2 + k), .int .i64 σ.sent, .int .i64 x, .int .i64 y, .string s]] W fun e w' => e = .returned (.tuple #[]) ∧ Hid (NetTo W p (.slice fa n fcap) wv2 { σ with way := σ.lay (false, f1, f2) (x, y, s) (k + 1) } w')) := Lib.hid (fun W hW => by
              have := lay_at { σ with way := σ.lay (false, f1, f2) (x, y, s) k } (σ.now + f2 + k, σ.sent, x, y, s) p _ wv2 W hW hLo.sorted ⟨by show σ.now + f2 + k < _; omega, by show σ.sent < _; omega⟩ (fun z hz => by
                refine ⟨Nat.lt_of_le_of_lt (hLo.soon z hz) (by omega), ?_⟩
                rcases hLo.old z hz with h | ⟨h, _⟩ <;> omega) (by show (σ.lay (false, f1, f2) (x, y, s) k).length ≤ 4096; omega)
              simp only [oneV, Int.natCast_add] at this
              exact this)
            have e1 : wr.cell? ⟨p, 1, none⟩ = some (.int .i64 σ.now) := hN2.cell 1
            have e2 : wr.cell? ⟨p, 2, none⟩ = some (.int .i64 σ.sent) := hN2.cell 2
            have e3 := HB.out
            clear hN2 hO2 hfr2 hLo hlen c1 c2 c4 b0 b1 b2 k2
            have hwa : IntKind.i64.wrap ((σ.now : Int) + (f2 : Int)) = (σ.now : Int) + (f2 : Int) := by rw [IntKind.wrap_i64]; omega
            have hwb : IntKind.i64.wrap ((σ.now : Int) + (f2 : Int) + (k : Int)) = (σ.now : Int) + (f2 : Int) + (k : Int) := by rw [IntKind.wrap_i64]; omega
            go_upto_region 16 with fail
            refine wp_region_still_tail 19 (by kernel_rfl) (by kernel_rfl) ?_
            change wpStill _ _ wr.drew (fun a' => wpList _ _ _ _ a' wr.drew) _ _
            obtain ⟨w2, hw2⟩ : ∃ W, wr.drew = W := ⟨_, rfl⟩
            have g1 : w2.cell? ⟨p, 1, none⟩ = some (.int .i64 σ.now) := by rw [← hw2]; exact e1
            have g2 : w2.cell? ⟨p, 2, none⟩ = some (.int .i64 σ.sent) := by rw [← hw2]; exact e2
            have g3 : w2.cell? ⟨fb, 2, none⟩ = some (.int .i64 f2) := by rw [← hw2]; exact e3
            have HW2 : Hid (wr.drew = w2) := Lib.hid hw2
            rw [hw2]
            clear hw2 e1 e2 e3
            simp only [List.take_succ_cons, List.take_zero, List.drop_succ_cons, List.drop_zero]
            repeat still_step
            refine wpStill_nil ?_
            go_wp2_with fail
            refine (HL.out w2 (by rw [← HW2.out]; exact ⟨HN2.out.pos, HN2.out.hp, HN2.out.hf, HN2.out.hw⟩)).mono ?_; rintro e w3 ⟨rfl, HT3⟩
            have HO3 : Hid (Only (foot p (.slice wa m wcap)) wc w2) := Lib.hid (by rw [← HW2.out]; exact ⟨HO2.out.os, HO2.out.tape, HO2.out.output, HO2.out.size, HO2.out.block⟩)
            have HT4 := Lib.hid (NetTo.trans HO3.out HFR2.out HT3.out)
            have HB4 : Hid (w3.cell? ⟨fb, 2, none⟩ = some (.int .i64 f2)) := Lib.hid (by
              obtain ⟨_, _, hO4, _⟩ := HT4.out
              exact hO4.cell HF.out.c.c2 hfw)
            go_wp2_with fail
            go_roundw
            case rel => exact ⟨k + 1, by omega, by go_num, HT4, HB4⟩
            case measure => simp [intOf]; omega
          · obtain rfl : k = f1 + 1 := by omega
            have e2 : wr.cell? ⟨p, 2, none⟩ = some (.int .i64 σ.sent) := hN2.cell 2
            have k2' : wr.frozen? ⟨p, 2, none⟩ = false := hN2.frozen 2
            clear hN2 hO2 hfr2 c1 c2 c4 b0 b1 b2 k2
            go_wp2_with fail
            go_ret
            rw [← HRR2.out]
            refine ⟨?_, .inl ⟨rfl, rfl⟩⟩
            have hO5 : Only (foot p (.slice wa m wcap)) w wr := (Only.of_below (S := foot p (.slice wa m wcap)) HF.out.b).next HO2.out
            have hfr5 : wv2.ownBlock = (Value.slice wa m wcap).ownBlock ∨ ∀ i, wv2.ownBlock = some i → w.heap.size ≤ i := by
              rcases HFR2.out with h | h
              · exact .inl h
              · exact .inr (fun i hi => Nat.le_trans HF.out.b.size (h i hi))
            have hz := HN2.out.put (wv' := wv2) 2 (.int .i64 ((σ.sent : Int) + 1)) { σ with sent := σ.sent + 1, way := σ.lay (false, f1, f2) (x, y, s) (f1 + 1) } wr (Only.refl _ _) HN2.out.hp (by simp) HN2.out.hw rfl rfl (.inl rfl)
            exact NetTo.trans hO5 hfr5 hz
set_option maxHeartbeats 4000000 in
set_option maxRecDepth 100000 in
theorem Send_at (σ : NetS) (ok : NetOK σ) (hnow : σ.now < 1125899906842624) (hsent : σ.sent < 1125899906842624) (x y : Int) (s : ByteArray) (p : Nat) (fv wv : Value) (w : World) (h : NetAt w p fv wv σ) (hss : s.size ≤ 140737488355328) :
    Calls Try.prog 6 #[.pointer (some ⟨p, 0, none⟩), .int .i64 x, .int .i64 y, .string s] w (SendIs (σ.send x y s) w p fv wv) := by
  have HN := Lib.hid h
  have HOK := Lib.hid ok
  have H1 := Lib.hid (none_at h)
  have H2 := Lib.hid (end_at h x)
  have H3 := Lib.hid (end_at h y)
  unfold NetS.send
  by_cases hx : σ.isEnd x
  · by_cases hy : σ.isEnd y
    · rw [if_neg (fun h => h ⟨hx, hy⟩)]
      rw [decide_eq_true hx] at H2
      rw [decide_eq_true hy] at H3
      by_cases hl : 1048576 < s.size
      · rw [if_pos hl]
        clear h ok
        go_enter Try.func6, Try.ntmps6
        go_wp2_with fail
        refine H1.out.mono ?_; rintro e w' ⟨rfl, rfl⟩
        go_wp2_with fail
        refine H2.out.mono ?_; rintro e w' ⟨rfl, rfl⟩
        go_wp2_with fail
        refine H3.out.mono ?_; rintro e w' ⟨rfl, rfl⟩
        go_wp2_with fail
        refine (nfault_any _ _ _).mono ?_; rintro e w1 ⟨b, rfl, hF, hb⟩
        go_wp2_with fail
        go_ret
        exact ⟨NetTo.same HN.out hb, .inr ⟨by show (4 : Nat) ≠ 0; decide, b, rfl, hF⟩⟩
      · rw [if_neg hl]
        exact Send_go σ ok hnow hsent x y s p fv wv w h hx hy (by omega)
    · rw [if_pos (fun h => hy h.2)]
      rw [decide_eq_true hx] at H2
      rw [decide_eq_false hy] at H3
      clear h ok
      go_enter Try.func6, Try.ntmps6
      go_wp2_with fail
      refine H1.out.mono ?_; rintro e w' ⟨rfl, rfl⟩
      go_wp2_with fail
      refine H2.out.mono ?_; rintro e w' ⟨rfl, rfl⟩
      go_wp2_with fail
      refine H3.out.mono ?_; rintro e w' ⟨rfl, rfl⟩
      go_wp2_with fail
      refine (nfault_any _ _ _).mono ?_; rintro e w1 ⟨b, rfl, hF, hb⟩
      go_wp2_with fail
      go_ret
      exact ⟨NetTo.same HN.out hb, .inr ⟨by show (2 : Nat) ≠ 0; decide, b, rfl, hF⟩⟩
  · rw [if_pos (fun h => hx h.1)]
    rw [decide_eq_false hx] at H2
    clear h ok
    go_enter Try.func6, Try.ntmps6
    go_wp2_with fail
    refine H1.out.mono ?_; rintro e w' ⟨rfl, rfl⟩
    go_wp2_with fail
    refine H2.out.mono ?_; rintro e w' ⟨rfl, rfl⟩
    go_wp2_with fail
    refine (nfault_any _ _ _).mono ?_; rintro e w1 ⟨b, rfl, hF, hb⟩
    go_wp2_with fail
    go_ret
    exact ⟨NetTo.same HN.out hb, .inr ⟨by show (2 : Nat) ≠ 0; decide, b, rfl, hF⟩⟩
end Go.Proofs.Ytbmlgnmilolamaa
