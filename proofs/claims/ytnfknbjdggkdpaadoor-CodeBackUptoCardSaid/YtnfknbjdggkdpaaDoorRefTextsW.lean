/-
  The reference's reader: a list of texts. No statement is proved here.
-/
import Derived.Test.YtnfknbjdggkdpaaDoorRefTextW
import Derived.Test.YtnfknbjdggkdpaaDoorRTexts2W
namespace Go.Proofs.YtnfknbjdggkdpaaDoor
open Go.RowKit
theorem but_belowB {w w1 w' : World} {r : Option Nat} (h : w.grownBy w1 r) (hb : Below w.heap.size w1 w') : w.grownBy w' r :=
  ⟨hb.os.trans h.os, hb.tape.trans h.tape, hb.output.trans h.output, Nat.le_trans h.size hb.size, fun k hk hne => (hb.block k hk).trans (h.block k hk hne)⟩
theorem but_trans {w w1 w' : World} {g : Nat} (h : w.grownBy w1 (some g)) (hb : w1.grownBy w' (some g)) : w.grownBy w' (some g) :=
  ⟨hb.os.trans h.os, hb.tape.trans h.tape, hb.output.trans h.output, Nat.le_trans h.size hb.size, fun k hk hne => (hb.block k (Nat.lt_of_lt_of_le hk h.size) hne).trans (h.block k hk hne)⟩
def RTextsIs (ss : List ByteArray) (c k g : Nat) (s : ByteArray) (at_ : Nat) (w : World) (e : Ending) (w' : World) : Prop :=
  ∃ a n cap, e = .returned (.tuple #[.slice a n cap, .int .i64 c, .int .i64 (if c = 0 then 0 else (at_ : Int))]) ∧ (c = 0 → n = ss.length ∧ StrRow w' a n ss) ∧ (c ≠ 0 → n = 0) ∧ RAt w' g s (if c = 0 then at_ + k else at_) ∧ w.grownBy w' (some g)
def RLInv (M x g : Nat) (s : ByteArray) (q0 : Nat) (W : World) (V : Value) (i : Nat) (wr : World) : Prop :=
  ∃ (ts : List ByteArray) (q : Nat), q0 + q ≤ s.size ∧ ts.length = i ∧ SoTexts M x (s.data.toList.drop q0) (ts.map fun s => s.data.toList) q (x - i) 0 ∧ RAt wr g s (q0 + q) ∧ Strs wr W.heap.size V ts ∧ W.grownBy wr (some g)
set_option maxHeartbeats 4000000 in
set_option maxRecDepth 100000 in
theorem rTexts_any (most each : Int) (N M g : Nat) (ss : List ByteArray) (s : ByteArray) (at_ c k : Nat) (w : World) (hN : max most 0 = (N : Int)) (hN2 : N ≤ 65536) (hM : max each 0 = (M : Int)) (hM2 : M ≤ 9223372036854775807)
    (hR : txtsR N M (s.data.toList.drop at_) = (ss.map (fun s => s.data.toList), c, k)) (hss : c = 0 → ss.length ≤ maxLen ∧ ∀ x ∈ ss, x.size ≤ maxLen) (hs : s.size ≤ 140737488355328) (ha : at_ ≤ s.size) (hr : RAt w g s at_) :
    Calls Tryd.prog 71 #[.pointer (some ⟨g, 0, none⟩), .int .i64 most, .int .i64 each] w (RTextsIs ss c k g s at_ w) := by
  obtain ⟨x, c0, k0, hx⟩ : ∃ x c0 k0, numR N (s.data.toList.drop at_) = (x, c0, k0) := ⟨_, _, _, rfl⟩
  have hn0 := fun w hr => rUint_any N g s at_ x c0 k0 w hx (by omega) hs ha hr
  have hlen := numR_len N (s.data.toList.drop at_)
  rw [hx] at hlen
  unfold txtsR at hR
  rw [hx] at hR
  rw [List.length_drop, ba_len] at hlen
  have HN := Lib.hid hn0
  have HT := Lib.hid hR
  have HM := Lib.hid hM
  have HNN := Lib.hid hN
  have HR := Lib.hid hr
  have HSS := Lib.hid hss
  have hk0 := hlen.1
  have gg := hr.lt
  have hx64 : x ≤ 65536 := by have := numR_le N (s.data.toList.drop at_); rw [hx] at this; exact Nat.le_trans this hN2
  obtain ⟨r0, r1, r2⟩ := hr
  clear hx hn0 hR hlen hM hN hss
  go_enter Tryd.func71, Tryd.ntmps71
  go_wp2_with fail
  refine (most_any most N _ HNN.out (by omega)).mono ?_; rintro e w' ⟨rfl, rfl⟩
  go_wp2_with fail
  refine (HN.out _ HR.out).mono ?_; rintro e w1 ⟨rfl, hr1, hg1⟩
  have HR1 := Lib.hid hr1
  have HG1 := Lib.hid hg1
  clear hr1 hg1 r0 r1 r2
  by_cases h0 : c0 = 0
  · subst h0
    have HTT : Hid (txtsG M x ((s.data.toList.drop at_).drop k0) = (ss.map (fun s => s.data.toList), c, k - k0) ∧ k0 ≤ k) := Lib.hid (by
      have := HT.out
      rw [if_neg (by simp)] at this
      injection this with e1 e2
      injection e2 with e2 e3
      exact ⟨by rw [← e1, ← e2, show k - k0 = (txtsG M x ((s.data.toList.drop at_).drop k0)).2.2 by omega], by omega⟩)
    have hR1 := HR1.out
    rw [if_pos rfl] at hR1
    have HI0 : Hid (RLInv M x g s (at_ + k0) w (.slice none 0 0) 0 w1) := Lib.hid ⟨[], 0, by omega, rfl, SoTexts.start _ _ _, hR1, Strs.nil _ _, HG1.out⟩
    clear HT hR1 HR1 HG1
    go_wp2_with fail
    go_loopw [13, 14] (fun v i wr => ∃ (i' : Nat) (A : Option Addr) (nA cA : Nat), v = .slice A nA cA ∧ i = .int .u64 i' ∧ i' ≤ x ∧ Hid (RLInv M x g s (at_ + k0) w (.slice A nA cA) i' wr)) (fun _ i _ => x - (intOf i).toNat)
    case atStart => exact ⟨0, none, 0, 0, rfl, rfl, by omega, HI0⟩
    case round =>
      obtain ⟨i', A, nA, cA, rfl, rfl, hix, HI⟩ := hrel
      by_cases hi : i' < x
      · obtain ⟨ts, q, hq, hlen, hS, hRq, hSt, hBut⟩ := HI.out
        obtain ⟨p, hp⟩ : ∃ p, at_ + k0 + q = p := ⟨_, rfl⟩
        rw [hp] at hRq hq
        obtain ⟨n', hn'⟩ : ∃ n', x - i' = n' + 1 := ⟨x - i' - 1, by omega⟩
        rw [hn'] at hS
        obtain ⟨tl, c1, k1, htx⟩ : ∃ tl c1 k1, txtR M (s.data.toList.drop p) = (tl, c1, k1) := ⟨_, _, _, rfl⟩
        obtain ⟨t, ht⟩ : ∃ t : ByteArray, t.data.toList = tl := ⟨⟨tl.toArray⟩, rfl⟩
        rw [← ht] at htx
        have HX := Lib.hid (rText_any each M g t s p c1 k1 wr HM.out hM2 htx hs hq hRq)
        have hdd : (s.data.toList.drop (at_ + k0)).drop q = s.data.toList.drop p := by rw [List.drop_drop, hp]
        have hc1 : (txtR M ((s.data.toList.drop (at_ + k0)).drop q)).2.1 = c1 := by rw [hdd, htx]
        have hkle := txtR_kle M (s.data.toList.drop p)
        rw [htx, List.length_drop, ba_len] at hkle
        simp only at hkle
        by_cases hc : c1 = 0
        · subst hc
          have HNX : Hid (∀ (w2 : World) (V' : Value), RAt w2 g s (p + k1) → w.grownBy w2 (some g) → Strs w2 w.heap.size V' (ts ++ [t]) → RLInv M x g s (at_ + k0) w V' (i' + 1) w2) := Lib.hid (by
            intro w2 V' hr2 hg2 hs2
            refine ⟨ts ++ [t], q + k1, by omega, by simp; omega, ?_, by rw [← Nat.add_assoc, hp]; exact hr2, hs2, hg2⟩
            have := hS.next hc1
            rw [hdd, htx] at this
            rw [List.map_append, show x - (i' + 1) = n' by omega]
            exact this)
          have HAP : Hid (∀ w2, wr.grownBy w2 (some g) → ∃ v' w3, (Builtin.append_ #[23, 23] 23 #[.slice A nA cA, .slice (some ⟨w2.heap.size, 0, none⟩) 1 1]).run Tryd.prog (w2.alloc (.cells #[.string t] 9)) = .ok v' w3 ∧ Strs w3 w.heap.size v' (ts ++ [t]) ∧ Below w.heap.size w2 w3) := Lib.hid (by
            intro w2 hg2'
            exact strs_append w2 w.heap.size (.slice A nA cA) ts t (hSt.but hg2' gg) (by omega) (Nat.le_trans hBut.size hg2'.size))
          have HB := Lib.hid hBut
          clear hq hlen hS hRq hSt hBut hp hn' htx ht hdd hc1 hkle HI
          go_wp2_with fail
          refine HX.out.mono ?_; rintro e w2 ⟨rfl, hr2, hg2'⟩
          rw [if_pos rfl] at hr2
          obtain ⟨v', w3, hap, hS3, hb3⟩ := HAP.out w2 hg2'
          have hr3 : RAt w3 g s (p + k1) := ⟨(hb3.cell (p := ⟨g, 0, none⟩) gg).trans hr2.1, (hb3.cell (p := ⟨g, 1, none⟩) gg).trans hr2.2.1, (hb3.frozen (p := ⟨g, 1, none⟩) gg).trans hr2.2.2⟩
          have HLI := Lib.hid (HNX.out w3 v' hr3 (but_belowB (but_trans HB.out hg2') hb3) hS3)
          have HA := Lib.hid hap
          obtain ⟨A', nA', cA', rfl⟩ := hS3.form
          clear hr2 hg2' hap hS3 hb3 hr3
          go_wp2_with (at_builtin; refine wpList_append_run rfl _ _ 23 23 rfl _ _ rfl rfl HA.out ?_)
          go_roundw
          case rel => exact ⟨i' + 1, A', nA', cA', rfl, by go_num, by omega, HLI⟩
          case measure => simp [intOf]; omega
        · have hcc : c = c1 := by
            have h1 := (hS.1 rfl).1
            have h2 := HTT.out.1
            rw [List.drop_drop] at h2
            rw [h2, txtsG, if_pos (by rw [hc1]; exact hc), hc1] at h1
            exact h1
          subst hcc
          have hcb : ((c : Int) == 0) = false := beq_eq_false_iff_ne.2 (by omega)
          have hif : (if c = 0 then (0 : Int) else (p : Int)) = (p : Int) := if_neg hc
          have HB := Lib.hid hBut
          have HC : Hid (∀ W : World, RAt W g s p → w.grownBy W (some g) → RTextsIs ss c k g s at_ w (.returned (.tuple #[.slice none 0 0, .int .i64 c, .int .i64 at_])) (W.setCell ⟨g, 1, none⟩ (.int .i64 (at_ : Int)))) := Lib.hid (fun W h1 h2 => ⟨none, 0, 0, by rw [if_neg hc], fun h => absurd h hc, fun _ => rfl, by rw [if_neg hc]; exact h1.set at_, but_set h2 _ _⟩)
          have hn1 : c ≠ 0 := hc
          clear hq hlen hS hRq hSt hBut hp hn' htx ht hdd hc1 hkle HI
          go_wp2_with fail
          refine HX.out.mono ?_; rintro e w2 ⟨rfl, hr2, hg2'⟩
          rw [if_neg hc] at hr2
          have HR2 := Lib.hid hr2
          have HG2 := Lib.hid (but_trans HB.out hg2')
          obtain ⟨r0, r1, r2⟩ := hr2
          clear hg2'
          go_wp2_with fail
          go_ret3
          exact HC.out _ HR2.out HG2.out
      · obtain rfl : i' = x := by omega
        obtain ⟨ts, q, hq, hlen, hS, hRq, hSt, hBut⟩ := HI.out
        rw [Nat.sub_self] at hS
        have he := hS.end_
        have hTT := HTT.out
        rw [List.drop_drop, he] at hTT
        obtain ⟨h1, h2⟩ := hTT
        injection h1 with e1 e2
        injection e2 with e2 e3
        have hsst : ts = ss := by
          have := congrArg (List.map fun l : List UInt8 => (⟨l.toArray⟩ : ByteArray)) e1
          simpa [List.map_map, Function.comp_def, ba_data] using this
        subst hsst
        subst e2
        obtain ⟨m1, m2⟩ := HSS.out rfl
        obtain ⟨a, cap, hv, hrow⟩ := hSt.row m1 m2
        injection hv with v1 v2 v3
        subst v1 v2 v3
        have HC : Hid (RTextsIs ts 0 k g s at_ w (.returned (.tuple #[.slice A ts.length cA, .int .i64 0, .int .i64 0])) wr) := Lib.hid ⟨A, ts.length, cA, rfl, fun _ => ⟨rfl, hrow⟩, fun h => absurd rfl h, by rw [if_pos rfl, show at_ + k = at_ + k0 + q by omega]; exact hRq, hBut⟩
        clear hq hlen hS hRq hSt hBut he e1 e3 h2 m1 m2 hrow HTT HI
        go_wp2_with fail
        go_ret3
        exact HC.out
  · have hcc : c = c0 := by
      have := HT.out
      rw [if_pos h0] at this
      injection this with _ e2
      injection e2 with e2 _
      exact e2.symm
    subst hcc
    have hcb : ((c : Int) == 0) = false := beq_eq_false_iff_ne.2 (by omega)
    have hif : (if c = 0 then (0 : Int) else (at_ : Int)) = (at_ : Int) := if_neg h0
    have hR1 := HR1.out
    rw [if_neg h0] at hR1
    have HC : Hid (RTextsIs ss c k g s at_ w (.returned (.tuple #[.slice none 0 0, .int .i64 c, .int .i64 at_])) w1) := Lib.hid ⟨none, 0, 0, by rw [if_neg h0], fun h => absurd h h0, fun _ => rfl, by rw [if_neg h0]; exact hR1, HG1.out⟩
    clear hR1
    go_wp2_with fail
    go_ret3
    exact HC.out
end Go.Proofs.YtnfknbjdggkdpaaDoor
