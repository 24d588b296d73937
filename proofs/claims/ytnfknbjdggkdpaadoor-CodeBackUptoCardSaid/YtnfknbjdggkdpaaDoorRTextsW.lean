/-
  code.Reader.Texts. No statement is proved here.
-/
import Derived.Test.YtnfknbjdggkdpaaDoorTextsPlain
namespace Go.Proofs.YtnfknbjdggkdpaaDoor
open Go.RowKit
def RBoxP (P : Value → World → Prop) (c0 k g b : Nat) (s : ByteArray) (at_ : Nat) (W : World) (c : Nat) (w' : World) : Prop :=
  c = c0 ∧ (∃ x, w'.cell? ⟨b, 0, none⟩ = some x ∧ (∀ z : Int, x ≠ .int .i64 z) ∧ (c0 = 0 → P x w')) ∧ w'.frozen? ⟨b, 0, none⟩ = false ∧ (c0 = 0 → RAt w' g s (at_ + k)) ∧ (∃ j, RAt w' g s j) ∧ But2 W w' g b
def KeepBoxP (P : Value → World → Prop) (c k g b : Nat) (s : ByteArray) (at_ : Nat) (w : World) (e : Ending) (w' : World) : Prop :=
  ∃ E x, e = .returned E ∧ ErrVal w' E c at_ ∧ w'.cell? ⟨b, 0, none⟩ = some x ∧ (∀ z : Int, x ≠ .int .i64 z) ∧ (c = 0 → P x w') ∧ w'.frozen? ⟨b, 0, none⟩ = false ∧ RAt w' g s (if c = 0 then at_ + k else at_) ∧ w.grownBy w' (some g)
theorem keep_boxP (F : FuncId) (caps : Array Value) (P : Value → World → Prop) (c k g b : Nat) (s : ByteArray) (at_ : Nat) (w W : World) (hB : Below w.heap.size w W) (hb : w.heap.size ≤ b) (hg : g < w.heap.size) (hr : RAt W g s at_)
    (hcf : ∀ w, (callFunc F caps).run Tryd.prog w = .ok (.enter F caps) w) (hdo : Calls Tryd.prog F caps W (DoIs g s (RBoxP P c k g b s at_ W))) (hc100 : c < 100) :
    Calls Tryd.prog 44 #[.pointer (some ⟨g, 0, none⟩), .func (.func F) #[] caps] W (KeepBoxP P c k g b s at_ w) := by
  refine (keep_any F caps g s at_ W _ hr hcf hdo).mono ?_
  rintro e w1 (⟨⟨rfl, ⟨x, hx, hz, hP⟩, hxf, h0, _, hG⟩, rfl⟩ | ⟨c', w2, bb, hc0, ⟨rfl, ⟨x, hx, hz, hP⟩, hxf, _, ⟨j, hk⟩, hG⟩, rfl, hF, hbb⟩)
  · exact ⟨_, x, rfl, .inl ⟨rfl, rfl⟩, hx, hz, hP, hxf, h0 rfl, hG.out hB hb⟩
  · have hk2 := (hk.set at_).below (w' := w1) (by rw [heap_size_set]; exact hbb)
    have hlt2 := World.block_lt_of_cell? w2 _ hx
    refine ⟨_, x, rfl, .inr ⟨hc0, hc100, bb, rfl, hF⟩, ?_, hz, fun h => absurd h hc0, ?_, by rw [if_neg hc0]; exact hk2, but_below (w1 := w2.setCell ⟨g, 1, none⟩ (.int .i64 (at_ : Int))) (but_set (hG.out hB hb) 1 _) (by rw [heap_size_set]; exact hbb)⟩
    · rw [hbb.cell (p := ⟨b, 0, none⟩) hlt2, World.cell?_setCell_other _ _ _ _ (by intro e; injection e with e1 e2; omega)]
      exact hx
    · rw [hbb.frozen (p := ⟨b, 0, none⟩) hlt2, World.frozen?_setCell]
      exact hxf
theorem enterTexts (caps : Array Value) (w : World) : (callFunc 50 caps).run Tryd.prog w = .ok (.enter 50 caps) w := by kernel_rfl
theorem Strs.but {w w' : World} {base g : Nat} {v : Value} {ss : List ByteArray} (h : Strs w base v ss) (hg : w.grownBy w' (some g)) (hlt : g < base) : Strs w' base v ss :=
  World.ownsRow.kept h hg (by
    cases hv : v.ownBlock with
    | none => exact .inl rfl
    | some j => exact .inr (fun e => by have := (World.ownsRow.lt h j hv).1; injection e with e; omega))
theorem Strs.setO {w : World} {base : Nat} {v : Value} {ss : List ByteArray} (h : Strs w base v ss) (a : Addr) (ha : a.block < base) (u : Value) : Strs (w.setCell a u) base v ss := ownsRow_setCell_below h ha u
theorem But2.but {w w1 w' : World} {g b : Nat} (h : But2 w w1 g b) (hg : w1.grownBy w' (some g)) : But2 w w' g b :=
  ⟨hg.os.trans h.os, hg.tape.trans h.tape, hg.output.trans h.output, Nat.le_trans h.size hg.size, fun k hk h1 h2 => (hg.block k (Nat.lt_of_lt_of_le hk h.size) (by simpa using h1)).trans (h.block k hk h1 h2)⟩
theorem But2.below {w w1 w' : World} {g b : Nat} (h : But2 w w1 g b) (hg : Below w.heap.size w1 w') : But2 w w' g b :=
  ⟨hg.os.trans h.os, hg.tape.trans h.tape, hg.output.trans h.output, Nat.le_trans h.size hg.size, fun k hk h1 h2 => (hg.block k hk).trans (h.block k hk h1 h2)⟩
theorem numR_le (most : Nat) (l : List UInt8) : (numR most l).1 ≤ most := by
  have h := (numG_len l 0 0 (by omega)).2.2.2.1
  unfold numR
  split
  · exact Nat.zero_le _
  · rename_i hn
    by_cases hc : (numG 0 0 l).2.1 = 0
    · exact Nat.le_of_not_lt (fun h1 => hn ⟨hc, h1⟩)
    · rw [h hc]; exact Nat.zero_le _
theorem txtR_kle (M : Nat) (l : List UInt8) : (txtR M l).2.2 ≤ l.length := by
  by_cases h : (txtR M l).2.1 = 0
  · exact (txtR_k M l h).1
  · unfold txtR at h ⊢
    split
    · simp
    · rename_i h0
      rw [if_neg h0] at h
      split
      · simp
      · rename_i h1
        rw [if_neg h1] at h
        exact absurd rfl h
theorem Strs.form {w : World} {base : Nat} {v : Value} {ss : List ByteArray} (h : Strs w base v ss) : ∃ A n c, v = .slice A n c := by
  rcases h.2 with ⟨rfl, _⟩ | ⟨g, cap, cur, rfl, _⟩
  · exact ⟨_, _, _, rfl⟩
  · exact ⟨_, _, _, rfl⟩
/-- The list in a cell of the call's own. -/
def ListIs (base : Nat) (ss : List ByteArray) (x : Value) (w : World) : Prop := Strs w base x ss
def LInv (M X g b : Nat) (s : ByteArray) (q0 : Nat) (W : World) (n c : Nat) (wr : World) : Prop :=
  ∃ (ss : List ByteArray) (q : Nat) (V : Value), q0 + q ≤ s.size ∧ ss.length + n ≤ X ∧ SoTexts M X (s.data.toList.drop q0) (ss.map fun s => s.data.toList) q n c ∧ (∃ j, RAt wr g s j) ∧ (c = 0 → RAt wr g s (q0 + q)) ∧
    wr.cell? ⟨b, 0, none⟩ = some V ∧ wr.frozen? ⟨b, 0, none⟩ = false ∧ Strs wr W.heap.size V ss ∧ But2 W wr g b ∧ c < 100
set_option maxHeartbeats 4000000 in
set_option maxRecDepth 100000 in
theorem Texts1_any (most each : Int) (N M g b0 b1 b2 b3 : Nat) (ss : List ByteArray) (s : ByteArray) (at_ c k : Nat) (w : World) (hN : max most 0 = (N : Int)) (hN2 : N ≤ 65536) (hM : max each 0 = (M : Int)) (hM2 : M ≤ 9223372036854775807)
    (hR : txtsR N M (s.data.toList.drop at_) = (ss.map (fun s => s.data.toList), c, k)) (hs : s.size ≤ 140737488355328) (ha : at_ ≤ s.size) (hr : RAt w g s at_)
    (h0 : w.cell? ⟨b0, 0, none⟩ = some (.pointer (some ⟨g, 0, none⟩))) (h1 : w.cell? ⟨b1, 0, none⟩ = some (.int .i64 most)) (h2 : w.cell? ⟨b2, 0, none⟩ = some (.int .i64 each)) (h3 : w.cell? ⟨b3, 0, none⟩ = some (.slice none 0 0)) (hf : w.frozen? ⟨b3, 0, none⟩ = false) (hg : g ≠ b3) (hg0 : b0 ≠ b3) (hg2 : b2 ≠ b3) :
    Calls Tryd.prog 50 #[.pointer (some ⟨b0, 0, none⟩), .pointer (some ⟨b1, 0, none⟩), .pointer (some ⟨b2, 0, none⟩), .pointer (some ⟨b3, 0, none⟩)] w (DoIs g s (RBoxP (ListIs w.heap.size ss) c k g b3 s at_ w)) := by
  obtain ⟨x, c0, k0, hx⟩ : ∃ x c0 k0, numR N (s.data.toList.drop at_) = (x, c0, k0) := ⟨_, _, _, rfl⟩
  have hn0 := number_any N g s at_ w (by omega) hs ha hr
  have hlen := numR_len N (s.data.toList.drop at_)
  unfold NumIs at hn0
  rw [hx] at hn0 hlen
  unfold txtsR at hR
  rw [hx] at hR
  have HN := Lib.hid hn0
  have HT := Lib.hid hR
  have HRA := Lib.hid hr
  rw [List.length_drop, ba_len] at hlen
  have HL := Lib.hid hlen
  have hx64 : x ≤ 65536 := by have := numR_le N (s.data.toList.drop at_); rw [hx] at this; exact Nat.le_trans this hN2
  have g0 := World.block_lt_of_cell? w _ h0
  have g2 := World.block_lt_of_cell? w _ h2
  have g3 := World.block_lt_of_cell? w _ h3
  have gg := hr.lt
  have hg00 : b0 ≠ g := by intro e; subst e; have := h0.symm.trans hr.1; cases this
  have hg20 : b2 ≠ g := by intro e; subst e; have := h2.symm.trans hr.1; cases this
  clear hr hx hn0 hR hlen
  go_enter Tryd.func50, Tryd.ntmps50
  go_wp2_with fail
  refine HN.out.mono ?_; rintro e w1 ⟨k', hk', rfl, hc, hr1, hg1⟩
  have hkeep : ∀ p : Nat, p ≠ g → p < w.heap.size → w1.heap[p]? = w.heap[p]? := fun p hp hlt => hg1.block p hlt (by simpa using hp)
  have h3' : w1.cell? ⟨b3, 0, none⟩ = some (.slice none 0 0) := (World.cell?_of_block (a := ⟨b3, 0, none⟩) (hkeep b3 hg.symm g3)).trans h3
  have hf' : w1.frozen? ⟨b3, 0, none⟩ = false := (World.frozen?_of_block (a := ⟨b3, 0, none⟩) (hkeep b3 hg.symm g3)).trans hf
  have HI : Hid (c0 = 0 → LInv M x g b3 s (at_ + k0) w x 0 w1) := Lib.hid (fun h => by
    have e : k' = k0 := hc h
    rw [e] at hr1 hk'
    exact ⟨[], 0, _, hk', by simp, SoTexts.start _ _ _, ⟨_, hr1⟩, fun _ => hr1, h3', hf', Strs.nil _ _, But2.of hg1, by decide⟩)
  have HI2 : Hid (But2 w w1 g b3 ∧ ∃ j, RAt w1 g s j) := Lib.hid ⟨But2.of hg1, _, hr1⟩
  clear hr1 hg1 hc hkeep
  by_cases hc0 : c0 = 0
  · subst hc0
    have HL0 : Hid (LInv M x g b3 s (at_ + k0) w x 0 w1) := Lib.hid (HI.out rfl)
    have HTT : Hid (txtsG M x ((s.data.toList.drop at_).drop k0) = (ss.map (fun s => s.data.toList), c, k - k0) ∧ k0 ≤ k) := Lib.hid (by
      have := HT.out
      rw [if_neg (by simp)] at this
      injection this with e1 e2
      injection e2 with e2 e3
      exact ⟨by rw [← e1, ← e2, show k - k0 = (txtsG M x ((s.data.toList.drop at_).drop k0)).2.2 by omega], by omega⟩)
    clear HI2 HI HT
    go_wp2_with fail
    go_loopw [5, 6] (fun n c wr => ∃ n' c' : Nat, n = .int .u64 n' ∧ c = .int .i64 c' ∧ n' ≤ 65536 ∧ Hid (LInv M x g b3 s (at_ + k0) w n' c' wr)) (fun n _ _ => (intOf n).toNat)
    case atStart => exact ⟨x, 0, rfl, rfl, hx64, HL0⟩
    case round =>
      obtain ⟨n, c', rfl, rfl, hn64, HIr⟩ := hrel
      by_cases hcc : c' = 0
      · subst hcc
        by_cases hn : n = 0
        · subst hn
          go_wp2_with fail
          go_ret
          obtain ⟨ts, q, V, hq, _, hS, ⟨j, hj⟩, hat, hV, hVf, hSt, hBut, _⟩ := HIr.out
          have he := hS.end_
          have hTT := HTT.out
          rw [List.drop_drop, he] at hTT
          obtain ⟨h1, h2⟩ := hTT
          injection h1 with e1 e2
          injection e2 with e2 e3
          have hss : ts = ss := by
            have := congrArg (List.map fun l : List UInt8 => (⟨l.toArray⟩ : ByteArray)) e1
            simpa [List.map_map, Function.comp_def, ba_data] using this
          subst hss
          subst e2
          refine ⟨0, rfl, ⟨rfl, ⟨V, hV, ?_, fun _ => hSt⟩, hVf, fun _ => ?_, ⟨j, hj⟩, hBut⟩, j, hj⟩
          · intro z e
            rcases hSt.2 with ⟨hv, _⟩ | ⟨g', cap, cur, hv, _⟩
            · rw [hv] at e; cases e
            · rw [hv] at e; cases e
          · have := hat rfl
            rw [show at_ + k = at_ + k0 + q by omega]
            exact this
        · obtain ⟨n', rfl⟩ : ∃ n', n = n' + 1 := ⟨n - 1, by omega⟩
          have hnd : ((n' + 1 : Nat) : Int) - 1 = (n' : Int) := by omega
          obtain ⟨ts, q, V, hq, hlen, hS, ⟨j, hj⟩, hat, hV, hVf, hSt, hBut, _⟩ := HIr.out
          have hrq := hat rfl
          obtain ⟨p, hp⟩ : ∃ p, at_ + k0 + q = p := ⟨_, rfl⟩
          rw [hp] at hrq hq
          obtain ⟨tl, c1, k1, htx⟩ : ∃ tl c1 k1, txtR M (s.data.toList.drop p) = (tl, c1, k1) := ⟨_, _, _, rfl⟩
          obtain ⟨t, ht⟩ : ∃ t : ByteArray, t.data.toList = tl := ⟨⟨tl.toArray⟩, rfl⟩
          rw [← ht] at htx
          have hbk : ∀ b : Nat, b < w.heap.size → b ≠ g → b ≠ b3 → wr.heap[b]? = w.heap[b]? := fun b h1 h2 h3 => hBut.block b h1 h2 h3
          have c00 : wr.cell? ⟨b0, 0, none⟩ = some (.pointer (some ⟨g, 0, none⟩)) := (World.cell?_of_block (a := ⟨b0, 0, none⟩) (hbk b0 g0 hg00 hg0)).trans h0
          have c22 : wr.cell? ⟨b2, 0, none⟩ = some (.int .i64 each) := (World.cell?_of_block (a := ⟨b2, 0, none⟩) (hbk b2 g2 hg20 hg2)).trans h2
          have HX := Lib.hid (text_any each M g t s p c1 k1 wr hM hM2 htx hs hq hrq)
          have hdd : (s.data.toList.drop (at_ + k0)).drop q = s.data.toList.drop p := by rw [List.drop_drop, hp]
          have hc1 : (txtR M ((s.data.toList.drop (at_ + k0)).drop q)).2.1 = c1 := by rw [hdd, htx]
          have HNX : Hid (∀ (w2 : World) (v' : Value) (j' : Nat), (c1 = 0 → j' = p + k1) → RAt w2 g s j' → wr.grownBy w2 (some g) → ∀ w3, Strs w3 w.heap.size v' (ts ++ [t]) → Below w.heap.size w2 w3 → LInv M x g b3 s (at_ + k0) w n' c1 (w3.setCell ⟨b3, 0, none⟩ v')) := Lib.hid (by
            intro w2 v' j' hj' hr2 hg2' w3 hS3 hb3
            have hr3 : RAt w3 g s j' := ⟨(hb3.cell (p := ⟨g, 0, none⟩) gg).trans hr2.1, (hb3.cell (p := ⟨g, 1, none⟩) gg).trans hr2.2.1, (hb3.frozen (p := ⟨g, 1, none⟩) gg).trans hr2.2.2⟩
            have hbb := hg2'.block b3 (World.block_lt_of_cell? wr _ hV) (by simpa using hg.symm)
            have hV2 : w3.cell? ⟨b3, 0, none⟩ = some V := (hb3.cell (p := ⟨b3, 0, none⟩) g3).trans ((World.cell?_of_block (a := ⟨b3, 0, none⟩) hbb).trans hV)
            have hV2f : w3.frozen? ⟨b3, 0, none⟩ = false := (hb3.frozen (p := ⟨b3, 0, none⟩) g3).trans ((World.frozen?_of_block (a := ⟨b3, 0, none⟩) hbb).trans hVf)
            have hbut : But2 w (w3.setCell ⟨b3, 0, none⟩ v') g b3 := ((hBut.but hg2').below hb3).set _ (.inr rfl) _
            refine ⟨ts ++ [t], q + k1, v', ?_, by simp; omega, ?_, ⟨j', hr3.setO hg _⟩, fun h => ?_, by rw [World.cell?_setCell_same _ _ _ hV2], by rw [World.frozen?_setCell]; exact hV2f, hS3.setO _ (by simp only; exact g3) _, hbut, ?_⟩
            · have := txtR_kle M (s.data.toList.drop p)
              rw [htx, List.length_drop, ba_len] at this
              simp only at this
              omega
            · by_cases h10 : c1 = 0
              · have := hS.next (by rw [hc1]; exact h10)
                rw [hdd, htx] at this
                rw [h10, List.map_append]
                exact this
              · have := hS.bad (by rw [hc1]; exact h10) (q + k1) n' (ss' := (ts ++ [t]).map fun s => s.data.toList)
                rw [hc1] at this
                exact this
            · rw [← Nat.add_assoc, hp, ← hj' h]
              exact hr3.setO hg _
            · have := txtR_lt M (s.data.toList.drop p)
              rw [htx] at this
              exact this)
          have HAP : Hid (∀ w2, wr.grownBy w2 (some g) → ∃ v' w3, (Builtin.append_ #[23, 23] 23 #[V, .slice (some ⟨w2.heap.size, 0, none⟩) 1 1]).run Tryd.prog (w2.alloc (.cells #[.string t] 9)) = .ok v' w3 ∧ Strs w3 w.heap.size v' (ts ++ [t]) ∧ Below w.heap.size w2 w3) := Lib.hid (by
            intro w2 hg2'
            exact strs_append w2 w.heap.size V ts t (hSt.but hg2' gg) (by omega) (Nat.le_trans hBut.size hg2'.size))
          have HVW : Hid (∀ w2, wr.grownBy w2 (some g) → w2.cell? ⟨b3, 0, none⟩ = some V ∧ w2.frozen? ⟨b3, 0, none⟩ = false) := Lib.hid (by
            intro w2 hg2'
            have hbb := hg2'.block b3 (World.block_lt_of_cell? wr _ hV) (by simpa using hg.symm)
            exact ⟨(World.cell?_of_block (a := ⟨b3, 0, none⟩) hbb).trans hV, (World.frozen?_of_block (a := ⟨b3, 0, none⟩) hbb).trans hVf⟩)
          clear hq hlen hS hj hat hV hVf hSt hBut hrq hp htx ht hbk hdd hc1
          go_wp2_with fail
          refine HX.out.mono ?_; rintro e w2 ⟨j', rfl, hj', hr2, hg2'⟩
          have HJ := Lib.hid hj'
          have HR2 := Lib.hid hr2
          have HG2 := Lib.hid hg2'
          obtain ⟨v', w3, hap, hS3, hb3⟩ := HAP.out w2 hg2'
          obtain ⟨hV2, hV2f⟩ := HVW.out w2 hg2'
          have hV3 : w3.cell? ⟨b3, 0, none⟩ = some V := (hb3.cell (p := ⟨b3, 0, none⟩) g3).trans hV2
          have hV3f : w3.frozen? ⟨b3, 0, none⟩ = false := (hb3.frozen (p := ⟨b3, 0, none⟩) g3).trans hV2f
          have HLI := Lib.hid (HNX.out w2 v' j' hj' hr2 hg2' w3 hS3 hb3)
          have HA := Lib.hid hap
          obtain ⟨A, nA, cA, rfl⟩ := hS3.form
          clear hj' hr2 hg2' hap hS3 hb3
          go_wp2_with (at_builtin; refine wpList_append_run rfl _ _ 23 23 rfl _ _ rfl rfl HA.out ?_)
          go_roundw
          case rel => exact ⟨n', c1, by go_num, rfl, by omega, HLI⟩
          case measure => simp [intOf]
      · have hcc2 : ((c' : Int) == 0) = false := beq_eq_false_iff_ne.2 (by omega)
        go_wp2_with fail
        go_ret
        obtain ⟨ts, q, V, hq, _, hS, ⟨j, hj⟩, hat, hV, hVf, hSt, hBut, hc100⟩ := HIr.out
        have he := hS.2 hcc
        have hTT := HTT.out
        rw [List.drop_drop] at hTT
        rw [hTT.1] at he
        simp only at he
        subst he
        refine ⟨c, rfl, ⟨rfl, ⟨V, hV, ?_, fun h => absurd h hcc⟩, hVf, fun h => absurd h hcc, ⟨j, hj⟩, hBut⟩, j, hj⟩
        intro z e
        rcases hSt.2 with ⟨hv, _⟩ | ⟨g', cap, cur, hv, _⟩
        · rw [hv] at e; cases e
        · rw [hv] at e; cases e
  · have hcc : ((c0 : Int) == 0) = false := beq_eq_false_iff_ne.2 (by omega)
    go_wp2_with fail
    refine wp_loop_rounds 1 ?_
    rw [rounds_succ]
    go_wp2_with fail
    go_ret
    have hcc0 : c = c0 := by
      have := HT.out
      rw [if_pos hc0] at this
      injection this with _ e2
      injection e2 with e2 _
      exact e2.symm
    subst hcc0
    obtain ⟨hBut, j, hj⟩ := HI2.out
    exact ⟨c, rfl, ⟨rfl, ⟨_, h3', fun z e => (by cases e), fun h => absurd h hc0⟩, hf', fun h => absurd h hc0, ⟨j, hj⟩, hBut⟩, j, hj⟩
end Go.Proofs.YtnfknbjdggkdpaaDoor
