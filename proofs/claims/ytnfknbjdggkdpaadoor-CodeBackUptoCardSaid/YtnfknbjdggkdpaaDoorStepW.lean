/-
  One call of both readers. No statement is proved here.
-/
import Derived.Test.YtnfknbjdggkdpaaDoorRefTextsW
import Derived.Test.YtnfknbjdggkdpaaDoorREndW
import Derived.Test.YtnfknbjdggkdpaaDoorCodeOneW
namespace Go.Proofs.YtnfknbjdggkdpaaDoor
open Go.RowKit
theorem is_ref (E : Value) (c at_ : Nat) (A : Int) (w : World) (hA : (if c = 0 then (0 : Int) else (at_ : Int)) = A) (h : ErrVal w E c at_) (ha : at_ ≤ 140737488355328) (hT : TabAny w) (hH : Handle w) :
    Calls Tryd.prog 22 #[E, .int .i64 c, .string ⟨#[]⟩, .int .i64 A] w fun e w' => e = .returned (.bool true) ∧ Below w.heap.size w w' := by
  rcases h with ⟨rfl, rfl⟩ | ⟨h1, h2, b, rfl, h4⟩
  · refine (is_nil ⟨#[]⟩ A w).mono ?_
    rintro e w' ⟨rfl, rfl⟩
    exact ⟨rfl, Below.refl _ _⟩
  · rw [if_neg h1] at hA
    subst hA
    exact is_err b c at_ h1 h2 (by omega) w h4 hT hH
theorem ErrVal.but_row {w w' : World} {E : Value} {c : Nat} {at_ : Int} {g k : Nat} {s : ByteArray} (h : ErrVal w E c at_) (hg : w.grownBy w' (some g)) (hr : RAt w g s k) : ErrVal w' E c at_ := by
  rcases h with h | ⟨h1, h2, b, h3, h4⟩
  · exact .inl h
  · exact .inr ⟨h1, h2, b, h3, h4.but hr.1 (fun k e => by cases e) hg⟩
/-- Two readers of the same bytes at one place; what was there before them is as it was. -/
def Both (W0 : World) (g h : Nat) (s : ByteArray) (k : Nat) (w : World) : Prop := k ≤ s.size ∧ RAt w g s k ∧ RAt w h s k ∧ Below W0.heap.size W0 w
def StepIs (W0 : World) (g h : Nat) (s : ByteArray) (e : Ending) (w' : World) : Prop := e = .returned (.bool true) ∧ ∃ k, Both W0 g h s k w'
theorem Both.below {W0 w w' : World} {g h k : Nat} {s : ByteArray} (hb : Both W0 g h s k w) (h1 : Below w.heap.size w w') : Both W0 g h s k w' :=
  ⟨hb.1, hb.2.1.below h1, hb.2.2.1.below h1, hb.2.2.2.trans (h1.mono hb.2.2.2.size)⟩
/-- After a call of each. -/
theorem both_next {W0 w w1 w2 : World} {g h k K : Nat} {s : ByteArray} (hb : Both W0 g h s k w) (hgh : g ≠ h) (hg0 : W0.heap.size ≤ g) (hh0 : W0.heap.size ≤ h) (h1 : RAt w1 g s K) (hg1 : w.grownBy w1 (some g)) (h2 : RAt w2 h s K) (hg2 : w1.grownBy w2 (some h)) (hK : K ≤ s.size) : Both W0 g h s K w2 :=
  ⟨hK, h1.kept hg2 hgh, h2, below_of_but (below_of_but hb.2.2.2 hg1 hg0) hg2 hh0⟩
theorem bytR_k (l : List UInt8) (x c k : Nat) (h : bytR l = (x, c, k)) : c = 0 → k ≤ l.length := by
  intro hc
  cases l with
  | nil => injection h with _ h; injection h with h _; omega
  | cons b l => injection h with _ h; injection h with _ h; simp; omega
theorem wrdR_k (l : List UInt8) (x c k : Nat) (h : wrdR l = (x, c, k)) : c = 0 → k ≤ l.length := by
  intro hc
  unfold wrdR at h
  split at h
  · injection h with _ h; injection h with h _; omega
  · injection h with _ h; injection h with _ h; omega
theorem place_le {at_ c k n : Nat} (ha : at_ ≤ n) (h : c = 0 → k ≤ n - at_) : (if c = 0 then at_ + k else at_) ≤ n := by
  split
  · have := h ‹_›; omega
  · exact ha
theorem drop_len (s : ByteArray) (at_ : Nat) : (s.data.toList.drop at_).length = s.size - at_ := by rw [List.length_drop, ba_len]
abbrev stepV (d : Int) (m : Nat) (t e : Int) : Value := .agg #[.int .i64 d, .int .u64 m, .int .i64 t, .int .i64 e]
def MethA (x : Value) (c K g : Nat) (s : ByteArray) (at_ : Nat) (w : World) (e : Ending) (w' : World) : Prop := ∃ E, e = .returned (.tuple #[x, E]) ∧ ErrVal w' E c at_ ∧ RAt w' g s K ∧ w.grownBy w' (some g)
def RefA (x : Value) (c K h : Nat) (s : ByteArray) (A : Int) (w : World) (e : Ending) (w' : World) : Prop := e = .returned (.tuple #[x, .int .i64 c, .int .i64 A]) ∧ RAt w' h s K ∧ w.grownBy w' (some h)
theorem methA {F : FuncId} {args : Array Value} {x : Value} {c k K g at_ : Nat} {s : ByteArray} {w : World} (hK : (if c = 0 then at_ + k else at_) = K) (h : Calls Tryd.prog F args w (MethodIs x c k g s at_ w)) : Calls Tryd.prog F args w (MethA x c K g s at_ w) := by
  subst hK
  exact h
theorem refA {F : FuncId} {args : Array Value} {x : Value} {c k K g at_ : Nat} {s : ByteArray} {w : World} {A : Int} (hA : (if c = 0 then (0 : Int) else (at_ : Int)) = A) (hK : (if c = 0 then at_ + k else at_) = K) (h : Calls Tryd.prog F args w (RefIs x c k g s at_ w)) : Calls Tryd.prog F args w (RefA x c K g s A w) := by
  subst hK hA
  exact h
theorem box_kept {w w1 : World} {C : Array Value} {T : TypeId} {g : Nat} (hg : (w.alloc (.cells C T)).grownBy w1 (some g)) (hlt : g < w.heap.size) (i : Nat) (v : Value) (hv : C[i]? = some v) : w1.cell? ⟨w.heap.size, i, none⟩ = some v := by
  have hb := hg.block w.heap.size (by simp) (by simp; omega)
  rw [World.cell?_of_block (a := ⟨w.heap.size, i, none⟩) hb, World.cell?_alloc_mark]
  exact hv
set_option maxHeartbeats 1000000 in
set_option maxRecDepth 100000 in
theorem step_uint (W0 : World) (g h : Nat) (s : ByteArray) (at_ : Nat) (w : World) (m : Nat) (tx ea : Int) (hs : s.size ≤ 140737488351232) (hb : Both W0 g h s at_ w) (hgh : g ≠ h) (hg0 : W0.heap.size ≤ g) (hh0 : W0.heap.size ≤ h) (hT : TabAny W0) (hH : Handle W0) (hm : m < 18446744073709551616) : Calls Tryd.prog 43 #[.pointer (some ⟨g, 0, none⟩), .pointer (some ⟨h, 0, none⟩), stepV 0 m tx ea] w (StepIs W0 g h s) := by
  obtain ⟨x, c, k, hx⟩ : ∃ x c k, numR m (s.data.toList.drop at_) = (x, c, k) := ⟨_, _, _, rfl⟩
  have hk := (numR_len m (s.data.toList.drop at_)).1
  rw [hx, drop_len] at hk
  obtain ⟨A, hA⟩ : ∃ A, (if c = 0 then (0 : Int) else (at_ : Int)) = A := ⟨_, rfl⟩
  obtain ⟨K, hK⟩ : ∃ K, (if c = 0 then at_ + k else at_) = K := ⟨_, rfl⟩
  have hKs : K ≤ s.size := by rw [← hK]; exact place_le hb.1 (fun _ => hk)
  have H1 := Lib.hid (fun W hr => methA hK (RUint_any m g s at_ x c k W hx hm (by omega) hb.1 hr))
  have H2 := Lib.hid (fun W hr => refA hA hK (rUint_any m h s at_ x c k W hx hm (by omega) hb.1 hr))
  have H3 := Lib.hid (fun E W hE hT hH => is_ref E c at_ A W hA hE (by have := hb.1; omega) hT hH)
  have HB := Lib.hid hb
  have HT := Lib.hid hT
  have HH := Lib.hid hH
  clear hx hk hA hK hb hT hH
  go_enter Tryd.func43, Tryd.ntmps43
  go_wp2_with fail
  have hB1 := HB.out.below (w' := w.alloc (.cells #[.int .i64 0, .int .u64 m, .int .i64 tx, .int .i64 ea] 79)) ((Below.refl _ _).alloc (Nat.le_refl _) _)
  refine (H1.out _ hB1.2.1).mono ?_; rintro e w1 ⟨E, rfl, hE, hr1, hg1⟩
  have hr1h := hB1.2.2.1.kept hg1 hgh.symm
  have HB1 := Lib.hid hB1
  have HR1 := Lib.hid hr1
  have HG1 := Lib.hid hg1
  have HE := Lib.hid hE
  have HRH := Lib.hid hr1h
  have hc1 := box_kept hg1 HB.out.2.1.lt 1 _ rfl
  have hc2 := box_kept hg1 HB.out.2.1.lt 2 _ rfl
  have hc3 := box_kept hg1 HB.out.2.1.lt 3 _ rfl
  clear hB1 hr1 hg1 hE hr1h
  go_wp2_with fail
  refine (H2.out _ HRH.out).mono ?_; rintro e w2 ⟨rfl, hr2, hg2⟩
  have hB2 := both_next HB1.out hgh hg0 hh0 HR1.out HG1.out hr2 hg2 hKs
  have hE2 : ErrVal w2 E c at_ := HE.out.but_row hg2 HRH.out
  have HB2 := Lib.hid hB2
  have HE2 := Lib.hid hE2
  clear hr2 hg2 hB2 hE2 hc1 hc2 hc3
  go_wp2_with fail
  refine (H3.out E w2 HE2.out (HT.out.below HB2.out.2.2.2) (HH.out.below HB2.out.2.2.2)).mono ?_; rintro e w3 ⟨rfl, hb3⟩
  have HB3 := Lib.hid (HB2.out.below hb3)
  clear hb3
  go_wp2_with fail
  go_ret
  exact ⟨rfl, K, HB3.out⟩
set_option maxHeartbeats 1000000 in
set_option maxRecDepth 100000 in
theorem step_word (W0 : World) (g h : Nat) (s : ByteArray) (at_ : Nat) (w : World) (m : Nat) (tx ea : Int) (hs : s.size ≤ 140737488351232) (hb : Both W0 g h s at_ w) (hgh : g ≠ h) (hg0 : W0.heap.size ≤ g) (hh0 : W0.heap.size ≤ h) (hT : TabAny W0) (hH : Handle W0) : Calls Tryd.prog 43 #[.pointer (some ⟨g, 0, none⟩), .pointer (some ⟨h, 0, none⟩), stepV 1 m tx ea] w (StepIs W0 g h s) := by
  obtain ⟨x, c, k, hx⟩ : ∃ x c k, wrdR (s.data.toList.drop at_) = (x, c, k) := ⟨_, _, _, rfl⟩
  have hk := wrdR_k _ _ _ _ hx
  rw [drop_len] at hk
  obtain ⟨A, hA⟩ : ∃ A, (if c = 0 then (0 : Int) else (at_ : Int)) = A := ⟨_, rfl⟩
  obtain ⟨K, hK⟩ : ∃ K, (if c = 0 then at_ + k else at_) = K := ⟨_, rfl⟩
  have hKs : K ≤ s.size := by rw [← hK]; exact place_le hb.1 hk
  have H1 := Lib.hid (fun W hr => methA hK (RWord_any g s at_ x c k W hx (by omega) hb.1 hr))
  have H2 := Lib.hid (fun W hr => refA hA hK (rWord_any h s at_ x c k W hx (by omega) hb.1 hr))
  have H3 := Lib.hid (fun E W hE hT hH => is_ref E c at_ A W hA hE (by have := hb.1; omega) hT hH)
  have HB := Lib.hid hb
  have HT := Lib.hid hT
  have HH := Lib.hid hH
  clear hx hk hA hK hb hT hH
  go_enter Tryd.func43, Tryd.ntmps43
  go_wp2_with fail
  have hB1 := HB.out.below (w' := w.alloc (.cells #[.int .i64 1, .int .u64 m, .int .i64 tx, .int .i64 ea] 79)) ((Below.refl _ _).alloc (Nat.le_refl _) _)
  refine (H1.out _ hB1.2.1).mono ?_; rintro e w1 ⟨E, rfl, hE, hr1, hg1⟩
  have hr1h := hB1.2.2.1.kept hg1 hgh.symm
  have HB1 := Lib.hid hB1
  have HR1 := Lib.hid hr1
  have HG1 := Lib.hid hg1
  have HE := Lib.hid hE
  have HRH := Lib.hid hr1h
  have hc1 := box_kept hg1 HB.out.2.1.lt 1 _ rfl
  have hc2 := box_kept hg1 HB.out.2.1.lt 2 _ rfl
  have hc3 := box_kept hg1 HB.out.2.1.lt 3 _ rfl
  clear hB1 hr1 hg1 hE hr1h
  go_wp2_with fail
  refine (H2.out _ HRH.out).mono ?_; rintro e w2 ⟨rfl, hr2, hg2⟩
  have hB2 := both_next HB1.out hgh hg0 hh0 HR1.out HG1.out hr2 hg2 hKs
  have hE2 : ErrVal w2 E c at_ := HE.out.but_row hg2 HRH.out
  have HB2 := Lib.hid hB2
  have HE2 := Lib.hid hE2
  clear hr2 hg2 hB2 hE2 hc1 hc2 hc3
  go_wp2_with fail
  refine (H3.out E w2 HE2.out (HT.out.below HB2.out.2.2.2) (HH.out.below HB2.out.2.2.2)).mono ?_; rintro e w3 ⟨rfl, hb3⟩
  have HB3 := Lib.hid (HB2.out.below hb3)
  clear hb3
  go_wp2_with fail
  go_ret
  exact ⟨rfl, K, HB3.out⟩
set_option maxHeartbeats 1000000 in
set_option maxRecDepth 100000 in
theorem step_byte (W0 : World) (g h : Nat) (s : ByteArray) (at_ : Nat) (w : World) (m : Nat) (tx ea : Int) (hs : s.size ≤ 140737488351232) (hb : Both W0 g h s at_ w) (hgh : g ≠ h) (hg0 : W0.heap.size ≤ g) (hh0 : W0.heap.size ≤ h) (hT : TabAny W0) (hH : Handle W0) : Calls Tryd.prog 43 #[.pointer (some ⟨g, 0, none⟩), .pointer (some ⟨h, 0, none⟩), stepV 2 m tx ea] w (StepIs W0 g h s) := by
  obtain ⟨x, c, k, hx⟩ : ∃ x c k, bytR (s.data.toList.drop at_) = (x, c, k) := ⟨_, _, _, rfl⟩
  have hk := bytR_k _ _ _ _ hx
  rw [drop_len] at hk
  obtain ⟨A, hA⟩ : ∃ A, (if c = 0 then (0 : Int) else (at_ : Int)) = A := ⟨_, rfl⟩
  obtain ⟨K, hK⟩ : ∃ K, (if c = 0 then at_ + k else at_) = K := ⟨_, rfl⟩
  have hKs : K ≤ s.size := by rw [← hK]; exact place_le hb.1 hk
  have H1 := Lib.hid (fun W hr => methA hK (RByte_any g s at_ x c k W hx (by omega) hb.1 hr))
  have H2 := Lib.hid (fun W hr => refA hA hK (rByte_any h s at_ x c k W hx (by omega) hb.1 hr))
  have H3 := Lib.hid (fun E W hE hT hH => is_ref E c at_ A W hA hE (by have := hb.1; omega) hT hH)
  have HB := Lib.hid hb
  have HT := Lib.hid hT
  have HH := Lib.hid hH
  clear hx hk hA hK hb hT hH
  go_enter Tryd.func43, Tryd.ntmps43
  go_wp2_with fail
  have hB1 := HB.out.below (w' := w.alloc (.cells #[.int .i64 2, .int .u64 m, .int .i64 tx, .int .i64 ea] 79)) ((Below.refl _ _).alloc (Nat.le_refl _) _)
  refine (H1.out _ hB1.2.1).mono ?_; rintro e w1 ⟨E, rfl, hE, hr1, hg1⟩
  have hr1h := hB1.2.2.1.kept hg1 hgh.symm
  have HB1 := Lib.hid hB1
  have HR1 := Lib.hid hr1
  have HG1 := Lib.hid hg1
  have HE := Lib.hid hE
  have HRH := Lib.hid hr1h
  have hc1 := box_kept hg1 HB.out.2.1.lt 1 _ rfl
  have hc2 := box_kept hg1 HB.out.2.1.lt 2 _ rfl
  have hc3 := box_kept hg1 HB.out.2.1.lt 3 _ rfl
  clear hB1 hr1 hg1 hE hr1h
  go_wp2_with fail
  refine (H2.out _ HRH.out).mono ?_; rintro e w2 ⟨rfl, hr2, hg2⟩
  have hB2 := both_next HB1.out hgh hg0 hh0 HR1.out HG1.out hr2 hg2 hKs
  have hE2 : ErrVal w2 E c at_ := HE.out.but_row hg2 HRH.out
  have HB2 := Lib.hid hB2
  have HE2 := Lib.hid hE2
  clear hr2 hg2 hB2 hE2 hc1 hc2 hc3
  go_wp2_with fail
  refine (H3.out E w2 HE2.out (HT.out.below HB2.out.2.2.2) (HH.out.below HB2.out.2.2.2)).mono ?_; rintro e w3 ⟨rfl, hb3⟩
  have HB3 := Lib.hid (HB2.out.below hb3)
  clear hb3
  go_wp2_with fail
  go_ret
  exact ⟨rfl, K, HB3.out⟩
set_option maxHeartbeats 1000000 in
set_option maxRecDepth 100000 in
theorem step_text (W0 : World) (g h : Nat) (s : ByteArray) (at_ : Nat) (w : World) (m : Nat) (tx ea : Int) (hs : s.size ≤ 140737488351232) (hb : Both W0 g h s at_ w) (hgh : g ≠ h) (hg0 : W0.heap.size ≤ g) (hh0 : W0.heap.size ≤ h) (hT : TabAny W0) (hH : Handle W0) (htx : tx ≤ 9223372036854775807) : Calls Tryd.prog 43 #[.pointer (some ⟨g, 0, none⟩), .pointer (some ⟨h, 0, none⟩), stepV 3 m tx ea] w (StepIs W0 g h s) := by
  obtain ⟨M, hM, hM2⟩ : ∃ M : Nat, max tx 0 = (M : Int) ∧ M ≤ 9223372036854775807 := ⟨(max tx 0).toNat, by omega, by omega⟩
  obtain ⟨tl, c, k, hx⟩ : ∃ x c k, txtR M (s.data.toList.drop at_) = (x, c, k) := ⟨_, _, _, rfl⟩
  obtain ⟨x, hxl⟩ : ∃ x : ByteArray, x.data.toList = tl := ⟨⟨tl.toArray⟩, rfl⟩
  rw [← hxl] at hx
  have hk : c = 0 → k ≤ s.size - at_ := fun _ => by have := txtR_kle M (s.data.toList.drop at_); rw [hx, drop_len] at this; exact this
  obtain ⟨A, hA⟩ : ∃ A, (if c = 0 then (0 : Int) else (at_ : Int)) = A := ⟨_, rfl⟩
  obtain ⟨K, hK⟩ : ∃ K, (if c = 0 then at_ + k else at_) = K := ⟨_, rfl⟩
  have hKs : K ≤ s.size := by rw [← hK]; exact place_le hb.1 hk
  have H1 := Lib.hid (fun W hr => methA hK (RText_any tx M g x s at_ c k W hM hM2 hx (by omega) hb.1 hr))
  have H2 := Lib.hid (fun W hr => refA hA hK (rText_any tx M h x s at_ c k W hM hM2 hx (by omega) hb.1 hr))
  have H3 := Lib.hid (fun E W hE hT hH => is_ref E c at_ A W hA hE (by have := hb.1; omega) hT hH)
  have HB := Lib.hid hb
  have HT := Lib.hid hT
  have HH := Lib.hid hH
  clear hM hM2 hxl hx hk hA hK hb hT hH
  go_enter Tryd.func43, Tryd.ntmps43
  go_wp2_with fail
  have hB1 := HB.out.below (w' := w.alloc (.cells #[.int .i64 3, .int .u64 m, .int .i64 tx, .int .i64 ea] 79)) ((Below.refl _ _).alloc (Nat.le_refl _) _)
  refine (H1.out _ hB1.2.1).mono ?_; rintro e w1 ⟨E, rfl, hE, hr1, hg1⟩
  have hr1h := hB1.2.2.1.kept hg1 hgh.symm
  have HB1 := Lib.hid hB1
  have HR1 := Lib.hid hr1
  have HG1 := Lib.hid hg1
  have HE := Lib.hid hE
  have HRH := Lib.hid hr1h
  have hc1 := box_kept hg1 HB.out.2.1.lt 1 _ rfl
  have hc2 := box_kept hg1 HB.out.2.1.lt 2 _ rfl
  have hc3 := box_kept hg1 HB.out.2.1.lt 3 _ rfl
  clear hB1 hr1 hg1 hE hr1h
  go_wp2_with fail
  refine (H2.out _ HRH.out).mono ?_; rintro e w2 ⟨rfl, hr2, hg2⟩
  have hB2 := both_next HB1.out hgh hg0 hh0 HR1.out HG1.out hr2 hg2 hKs
  have hE2 : ErrVal w2 E c at_ := HE.out.but_row hg2 HRH.out
  have HB2 := Lib.hid hB2
  have HE2 := Lib.hid hE2
  clear hr2 hg2 hB2 hE2 hc1 hc2 hc3
  go_wp2_with fail
  refine (H3.out E w2 HE2.out (HT.out.below HB2.out.2.2.2) (HH.out.below HB2.out.2.2.2)).mono ?_; rintro e w3 ⟨rfl, hb3⟩
  have HB3 := Lib.hid (HB2.out.below hb3)
  clear hb3
  go_wp2_with fail
  go_ret
  exact ⟨rfl, K, HB3.out⟩
set_option maxHeartbeats 1000000 in
set_option maxRecDepth 100000 in
theorem step_end (W0 : World) (g h : Nat) (s : ByteArray) (at_ : Nat) (w : World) (m : Nat) (tx ea : Int) (hs : s.size ≤ 140737488351232) (hb : Both W0 g h s at_ w) (hgh : g ≠ h) (hg0 : W0.heap.size ≤ g) (hT : TabAny W0) (hH : Handle W0) (d : Int) (d0 : (d == 0) = false) (d1 : (d == 1) = false) (d2 : (d == 2) = false) (d3 : (d == 3) = false) (d4 : (d == 4) = false) : Calls Tryd.prog 43 #[.pointer (some ⟨g, 0, none⟩), .pointer (some ⟨h, 0, none⟩), stepV d m tx ea] w (StepIs W0 g h s) := by
  obtain ⟨c, hc⟩ : ∃ c : Nat, (if at_ < s.size then 23 else 0) = c := ⟨_, rfl⟩
  obtain ⟨A, hA⟩ : ∃ A : Int, (if at_ < s.size then (at_ : Int) else 0) = A := ⟨_, rfl⟩
  have hA2 : (if c = 0 then (0 : Int) else (at_ : Int)) = A := by
    rw [← hA, ← hc]
    by_cases hl : at_ < s.size
    · rw [if_pos hl, if_pos hl]; simp
    · rw [if_neg hl, if_neg hl]; simp
  have h1 := fun W hr => REnd_any g s at_ W hr
  have h2 := fun W hr => rEnd_any h s at_ W hr
  unfold EndIs at h1
  unfold RefEndIs at h2
  rw [hc] at h1 h2
  rw [hA] at h2
  have H1 := Lib.hid h1
  have H2 := Lib.hid h2
  have H3 := Lib.hid (fun E W hE hT hH => is_ref E c at_ A W hA2 hE (by have := hb.1; omega) hT hH)
  have HB := Lib.hid hb
  have HT := Lib.hid hT
  have HH := Lib.hid hH
  clear h1 h2 hc hA hA2 hb hT hH
  go_enter Tryd.func43, Tryd.ntmps43
  go_wp2_with fail
  have HB1 := Lib.hid (HB.out.below (w' := w.alloc (.cells #[.int .i64 d, .int .u64 m, .int .i64 tx, .int .i64 ea] 79)) ((Below.refl _ _).alloc (Nat.le_refl _) _))
  refine (H2.out _ HB1.out.2.2.1).mono ?_; rintro e w1 ⟨rfl, _, n, rfl⟩
  have HB2 := Lib.hid (HB1.out.below (below_drewN (Below.refl _ _) n))
  go_wp2_with fail
  refine (H1.out _ HB2.out.2.1).mono ?_; rintro e w2 ⟨E, rfl, hE, hr, hg⟩
  have HB3 : Hid (Both W0 g h s at_ w2) := Lib.hid ⟨HB2.out.1, hr, HB2.out.2.2.1.kept hg hgh.symm, below_of_but HB2.out.2.2.2 hg hg0⟩
  have HE := Lib.hid hE
  clear hE hr hg
  go_wp2_with fail
  refine (H3.out E w2 HE.out (HT.out.below HB3.out.2.2.2) (HH.out.below HB3.out.2.2.2)).mono ?_; rintro e w3 ⟨rfl, hb3⟩
  have HB4 := Lib.hid (HB3.out.below hb3)
  clear hb3
  go_wp2_with fail
  go_ret
  exact ⟨rfl, at_, HB4.out⟩
theorem StrRow.but {w w' : World} {a : Option Addr} {n h : Nat} {ss : List ByteArray} (hr : StrRow w a n ss) (hf : ∀ b, a = some b → b.block ≠ h) (hg : w.grownBy w' (some h)) : StrRow w' a n ss := by
  obtain ⟨h1, h2, h3, h4⟩ := hr
  refine ⟨h1, h2, h3, fun hl => ?_⟩
  obtain ⟨b, off, e, hc⟩ := h4 hl
  have hne := hf _ e
  have hblk := hg.block b (World.block_lt_of_cell? w _ (hc 0 hl)) (by simpa using hne)
  exact ⟨b, off, e, fun i hi => (World.cell?_of_block (a := ⟨b, off + i, none⟩) hblk).trans (hc i hi)⟩
theorem strRow_zero (w : World) (a : Option Addr) : StrRow w a 0 [] := ⟨rfl, by decide, by simp, fun h => by omega⟩
set_option maxHeartbeats 2000000 in
set_option maxRecDepth 100000 in
theorem step_texts (W0 : World) (g h : Nat) (s : ByteArray) (at_ : Nat) (w : World) (m : Nat) (tx ea : Int) (hs : s.size ≤ 140737488351232) (hb : Both W0 g h s at_ w) (hgh : g ≠ h) (hg0 : W0.heap.size ≤ g) (hh0 : W0.heap.size ≤ h) (hT : TabAny W0) (hH : Handle W0) (htx : tx ≤ 65536) (hea : ea ≤ 9223372036854775807) : Calls Tryd.prog 43 #[.pointer (some ⟨g, 0, none⟩), .pointer (some ⟨h, 0, none⟩), stepV 4 m tx ea] w (StepIs W0 g h s) := by
  obtain ⟨N, hN, hN2⟩ : ∃ N : Nat, max tx 0 = (N : Int) ∧ N ≤ 65536 := ⟨(max tx 0).toNat, by omega, by omega⟩
  obtain ⟨M, hM, hM2⟩ : ∃ M : Nat, max ea 0 = (M : Int) ∧ M ≤ 9223372036854775807 := ⟨(max ea 0).toNat, by omega, by omega⟩
  obtain ⟨l3, c, k, hl⟩ : ∃ x c k, txtsR N M (s.data.toList.drop at_) = (x, c, k) := ⟨_, _, _, rfl⟩
  obtain ⟨ss, hss⟩ : ∃ ss : List ByteArray, dl ss = l3 := ⟨l3.map fun l => ⟨l.toArray⟩, by simp [dl, List.map_map, Function.comp_def]⟩
  rw [← hss] at hl
  have hk : c = 0 → k ≤ s.size - at_ := fun h => by have := txtsR_kk N M (s.data.toList.drop at_); rw [hl, drop_len] at this; exact this h
  have hrow : c = 0 → ss.length ≤ maxLen ∧ ∀ x ∈ ss, x.size ≤ maxLen := fun hc => by
    have h1 := txtsR_num N M (s.data.toList.drop at_)
    rw [hl] at h1
    have h1 : (dl ss).length ≤ N := h1 hc
    rw [dl, List.length_map] at h1
    refine ⟨by unfold maxLen; omega, fun x hx => ?_⟩
    have h2 := mem_texts (dl ss) x.data.toList (by rw [dl]; exact List.mem_map_of_mem hx)
    have h3 := txtsR_kle N M (s.data.toList.drop at_)
    rw [hl, drop_len] at h3
    have h3 : (textsL (dl ss)).length ≤ s.size - at_ := h3 hc
    rw [ba_len] at h2
    unfold maxLen
    omega
  obtain ⟨A, hA⟩ : ∃ A, (if c = 0 then (0 : Int) else (at_ : Int)) = A := ⟨_, rfl⟩
  obtain ⟨K, hK⟩ : ∃ K, (if c = 0 then at_ + k else at_) = K := ⟨_, rfl⟩
  have hKs : K ≤ s.size := by rw [← hK]; exact place_le hb.1 hk
  have h1 := fun W hr => RTextsF_any tx ea N M g ss s at_ c k W hN hN2 hM hM2 hl hrow (by omega) hb.1 hr
  have h2 := fun W hr => rTexts_any tx ea N M h ss s at_ c k W hN hN2 hM hM2 hl hrow (by omega) hb.1 hr
  unfold TextsFIs at h1
  unfold RTextsIs at h2
  rw [hK] at h1 h2
  rw [hA] at h2
  have H1 := Lib.hid h1
  have H2 := Lib.hid h2
  have H3 := Lib.hid (fun E W hE hT hH => is_ref E c at_ A W hA hE (by have := hb.1; omega) hT hH)
  have HB := Lib.hid hb
  have HT := Lib.hid hT
  have HH := Lib.hid hH
  clear hN hN2 hM hM2 hl hss hk hrow hA hK h1 h2 hb hT hH
  go_enter Tryd.func43, Tryd.ntmps43
  go_wp2_with fail
  have hB1 := HB.out.below (w' := w.alloc (.cells #[.int .i64 4, .int .u64 m, .int .i64 tx, .int .i64 ea] 79)) ((Below.refl _ _).alloc (Nat.le_refl _) _)
  refine (H1.out _ hB1.2.1).mono ?_; rintro e w1 ⟨E, a, n, cap, rfl, hE, h0, hn, hr1, hg1⟩
  have hr1h := hB1.2.2.1.kept hg1 hgh.symm
  have hhl := hB1.2.2.1.lt
  have HB1 := Lib.hid hB1
  have HR1 := Lib.hid hr1
  have HG1 := Lib.hid hg1
  have HE := Lib.hid hE
  have HRH := Lib.hid hr1h
  have HL : Hid (∃ ss', StrRow w1 a n ss' ∧ (c = 0 → ss' = ss) ∧ (c ≠ 0 → ss' = []) ∧ (0 < n → ∀ b, a = some b → b.block ≠ h)) := Lib.hid (by
    by_cases hc : c = 0
    · obtain ⟨e1, e2, e3⟩ := h0 hc
      subst e1
      exact ⟨ss, e2, fun _ => rfl, fun h => absurd hc h, fun _ b hb => by have := e3 b hb; omega⟩
    · have := hn hc
      subst this
      exact ⟨[], strRow_zero _ _, fun h => absurd h hc, fun _ => rfl, fun h => by omega⟩)
  have hc2 := box_kept hg1 HB.out.2.1.lt 2 _ rfl
  have hc3 := box_kept hg1 HB.out.2.1.lt 3 _ rfl
  clear hB1 hr1 hg1 hE hr1h h0 hn
  go_wp2_with fail
  refine (H2.out _ HRH.out).mono ?_; rintro e w2 ⟨a2, n2, cap2, rfl, h0, hn, hr2, hg2⟩
  have hB2 := both_next HB1.out hgh hg0 hh0 HR1.out HG1.out hr2 hg2 hKs
  have hE2 : ErrVal w2 E c at_ := HE.out.but_row hg2 HRH.out
  have HB2 := Lib.hid hB2
  have HE2 := Lib.hid hE2
  obtain ⟨ts, hts⟩ : ∃ ts, Hid (n2 = n ∧ StrRow w2 a n ts ∧ StrRow w2 a2 n ts) := by
    obtain ⟨ss', g1, g2, g3, g4⟩ := HL.out
    have hrow1 : StrRow w2 a n ss' := by
      by_cases hn0 : 0 < n
      · exact g1.but (g4 hn0) hg2
      · obtain rfl : n = 0 := by omega
        have : ss' = [] := List.eq_nil_of_length_eq_zero g1.1
        subst this
        exact strRow_zero _ _
    refine ⟨ss', Lib.hid ⟨?_, hrow1, ?_⟩⟩
    · by_cases hc : c = 0
      · rw [(h0 hc).1, ← g2 hc, g1.1]
      · rw [hn hc, ← g1.1, g3 hc]; rfl
    · by_cases hc : c = 0
      · have := (h0 hc).2
        rw [← g2 hc] at this
        rw [show n = n2 from by rw [(h0 hc).1, ← g2 hc, g1.1]]
        exact this
      · have e1 := g3 hc
        have e2 := g1.1
        rw [e1] at e2 ⊢
        have e3 : n = 0 := e2.symm
        rw [e3]
        exact strRow_zero _ _
  obtain rfl : n2 = n := hts.out.1
  clear hr2 hg2 hB2 hE2 hc2 hc3 h0 hn HL
  go_wp2_with fail
  refine (H3.out E w2 HE2.out (HT.out.below HB2.out.2.2.2) (HH.out.below HB2.out.2.2.2)).mono ?_; rintro e w3 ⟨rfl, hb3⟩
  have HB3 := Lib.hid (HB2.out.below hb3)
  have HR3 : Hid (StrRow w3 a n2 ts ∧ StrRow w3 a2 n2 ts) := Lib.hid ⟨hts.out.2.1.below hb3, hts.out.2.2.below hb3⟩
  have hnl : n2 ≤ maxLen := HR3.out.1.2.1
  unfold maxLen at hnl
  clear hb3 hts
  go_wp2_with fail
  go_loopw [32] (fun i wr => ∃ j : Nat, i = .int .i64 j ∧ j ≤ n2 ∧ Hid (∃ m, wr = w3.drewN m)) (fun i _ => n2 - (intOf i).toNat)
  case atStart => exact ⟨0, rfl, by omega, Lib.hid ⟨0, rfl⟩⟩
  case round =>
    obtain ⟨j, rfl, hj, HM⟩ := hrel
    obtain ⟨m', rfl⟩ := HM.out
    by_cases hjn : j < n2
    · obtain ⟨b1, o1, x1, rfl, hx1, HX1, _⟩ := HR3.out.1.item j hjn
      obtain ⟨b2, o2, x2, rfl, hx2, HX2, _⟩ := HR3.out.2.item j hjn
      obtain rfl : x1 = x2 := Option.some.inj (HX1.out.symm.trans HX2.out)
      go_wp2_with fail
      go_quiet (fail)
      go_wp2_with fail
      go_roundw
      case rel => exact ⟨j + 1, by go_num, by omega, Lib.hid ⟨_, by first | rfl | exact World.drewN_drewN _ _ _⟩⟩
      case measure => simp [intOf]; omega
    · obtain rfl : j = n2 := by omega
      go_wp2_with fail
      go_ret
      exact ⟨rfl, K, HB3.out.below (below_drewN (Below.refl _ _) m')⟩
set_option maxHeartbeats 1000000 in
set_option maxRecDepth 100000 in
theorem step_many (W0 : World) (g h : Nat) (s : ByteArray) (at_ : Nat) (w : World) (m : Nat) (tx ea : Int) (hb : Both W0 g h s at_ w) (htx : 65536 < tx) : Calls Tryd.prog 43 #[.pointer (some ⟨g, 0, none⟩), .pointer (some ⟨h, 0, none⟩), stepV 4 m tx ea] w (StepIs W0 g h s) := by
  have HB := Lib.hid hb
  clear hb
  go_enter Tryd.func43, Tryd.ntmps43
  go_wp2_with fail
  go_ret
  exact ⟨rfl, at_, HB.out.below ((Below.refl _ _).alloc (Nat.le_refl _) _)⟩
theorem step_any (W0 : World) (g h : Nat) (s : ByteArray) (at_ : Nat) (w : World) (m : Nat) (tx ea : Int) (hs : s.size ≤ 140737488351232) (hb : Both W0 g h s at_ w) (hgh : g ≠ h) (hg0 : W0.heap.size ≤ g) (hh0 : W0.heap.size ≤ h) (hT : TabAny W0) (hH : Handle W0) (d : Int) (hm : m < 18446744073709551616) (htx : tx ≤ 9223372036854775807) (hea : ea ≤ 9223372036854775807) : Calls Tryd.prog 43 #[.pointer (some ⟨g, 0, none⟩), .pointer (some ⟨h, 0, none⟩), stepV d m tx ea] w (StepIs W0 g h s) := by
  by_cases d0 : d = 0
  · subst d0; exact step_uint W0 g h s at_ w m tx ea hs hb hgh hg0 hh0 hT hH hm
  by_cases d1 : d = 1
  · subst d1; exact step_word W0 g h s at_ w m tx ea hs hb hgh hg0 hh0 hT hH
  by_cases d2 : d = 2
  · subst d2; exact step_byte W0 g h s at_ w m tx ea hs hb hgh hg0 hh0 hT hH
  by_cases d3 : d = 3
  · subst d3; exact step_text W0 g h s at_ w m tx ea hs hb hgh hg0 hh0 hT hH htx
  by_cases d4 : d = 4
  · subst d4
    by_cases hx : tx ≤ 65536
    · exact step_texts W0 g h s at_ w m tx ea hs hb hgh hg0 hh0 hT hH hx hea
    · exact step_many W0 g h s at_ w m tx ea hb (by omega)
  exact step_end W0 g h s at_ w m tx ea hs hb hgh hg0 hT hH d (beq_eq_false_iff_ne.2 d0) (beq_eq_false_iff_ne.2 d1) (beq_eq_false_iff_ne.2 d2) (beq_eq_false_iff_ne.2 d3) (beq_eq_false_iff_ne.2 d4)
end Go.Proofs.YtnfknbjdggkdpaaDoor
