/-
  code.Reader.Texts, the method. No statement is proved here.
-/
import Derived.Test.YtnfknbjdggkdpaaDoorRTextsW
namespace Go.Proofs.YtnfknbjdggkdpaaDoor
open Go.RowKit
theorem boxes4 (w : World) (x y z u : Value) (t1 t2 t3 t4 : TypeId) :
    ((((w.alloc (.cells #[x] t1)).alloc (.cells #[y] t2)).alloc (.cells #[z] t3)).alloc (.cells #[u] t4)).cell? ⟨w.heap.size, 0, none⟩ = some x ∧
    ((((w.alloc (.cells #[x] t1)).alloc (.cells #[y] t2)).alloc (.cells #[z] t3)).alloc (.cells #[u] t4)).cell? ⟨w.heap.size + 1, 0, none⟩ = some y ∧
    ((((w.alloc (.cells #[x] t1)).alloc (.cells #[y] t2)).alloc (.cells #[z] t3)).alloc (.cells #[u] t4)).cell? ⟨w.heap.size + 1 + 1, 0, none⟩ = some z ∧
    ((((w.alloc (.cells #[x] t1)).alloc (.cells #[y] t2)).alloc (.cells #[z] t3)).alloc (.cells #[u] t4)).cell? ⟨w.heap.size + 1 + 1 + 1, 0, none⟩ = some u ∧
    ((((w.alloc (.cells #[x] t1)).alloc (.cells #[y] t2)).alloc (.cells #[z] t3)).alloc (.cells #[u] t4)).frozen? ⟨w.heap.size + 1 + 1 + 1, 0, none⟩ = false ∧
    Below w.heap.size w ((((w.alloc (.cells #[x] t1)).alloc (.cells #[y] t2)).alloc (.cells #[z] t3)).alloc (.cells #[u] t4)) ∧
    ((((w.alloc (.cells #[x] t1)).alloc (.cells #[y] t2)).alloc (.cells #[z] t3)).alloc (.cells #[u] t4)).heap.size = w.heap.size + 4 := by
  obtain ⟨c0, c1, c2, _, hB, hz⟩ := boxes3 w x y z t1 t2 t3
  generalize ((w.alloc (.cells #[x] t1)).alloc (.cells #[y] t2)).alloc (.cells #[z] t3) = W at *
  have e : w.heap.size + 1 + 1 + 1 = W.heap.size := by omega
  refine ⟨?_, ?_, ?_, ?_, ?_, hB.alloc hB.size _, by simp; omega⟩
  · rw [World.cell?_alloc_lt _ _ _ (by simp only; omega)]; exact c0
  · rw [World.cell?_alloc_lt _ _ _ (by simp only; omega)]; exact c1
  · rw [World.cell?_alloc_lt _ _ _ (by simp only; omega)]; exact c2
  · rw [e, World.cell?_alloc_mark]; rfl
  · rw [e, World.frozen?_alloc_mark]; rfl
def TextsIs (ss : List ByteArray) (c k g : Nat) (s : ByteArray) (at_ : Nat) (w : World) (e : Ending) (w' : World) : Prop :=
  ∃ E a n cap, e = .returned (.tuple #[.slice a n cap, E]) ∧ ErrVal w' E c at_ ∧ (c = 0 → n = ss.length ∧ StrRow w' a n ss) ∧ (c ≠ 0 → n = 0) ∧ RAt w' g s (if c = 0 then at_ + k else at_) ∧ w.grownBy w' (some g)
/-- The same, the list's memory new. -/
def TextsFIs (ss : List ByteArray) (c k g : Nat) (s : ByteArray) (at_ : Nat) (w : World) (e : Ending) (w' : World) : Prop :=
  ∃ E a n cap, e = .returned (.tuple #[.slice a n cap, E]) ∧ ErrVal w' E c at_ ∧ (c = 0 → n = ss.length ∧ StrRow w' a n ss ∧ ∀ b, a = some b → w.heap.size ≤ b.block) ∧ (c ≠ 0 → n = 0) ∧ RAt w' g s (if c = 0 then at_ + k else at_) ∧ w.grownBy w' (some g)
theorem Strs.fresh {w : World} {base : Nat} {a : Option Addr} {n cap : Nat} {ss : List ByteArray} (h : Strs w base (.slice a n cap) ss) : ∀ b, a = some b → base ≤ b.block := by
  intro b hb
  subst hb
  exact (World.ownsRow.lt h b.block rfl).1
set_option maxHeartbeats 2000000 in
set_option maxRecDepth 100000 in
theorem RTextsF_any (most each : Int) (N M g : Nat) (ss : List ByteArray) (s : ByteArray) (at_ c k : Nat) (w : World) (hN : max most 0 = (N : Int)) (hN2 : N ≤ 65536) (hM : max each 0 = (M : Int)) (hM2 : M ≤ 9223372036854775807)
    (hR : txtsR N M (s.data.toList.drop at_) = (ss.map (fun s => s.data.toList), c, k)) (hss : c = 0 → ss.length ≤ maxLen ∧ ∀ x ∈ ss, x.size ≤ maxLen) (hs : s.size ≤ 140737488355328) (ha : at_ ≤ s.size) (hr : RAt w g s at_) :
    Calls Tryd.prog 26 #[.pointer (some ⟨g, 0, none⟩), .int .i64 most, .int .i64 each] w (TextsFIs ss c k g s at_ w) := by
  have hlt := hr.lt
  have HR := Lib.hid hr
  have HRR := Lib.hid hR
  have HM := Lib.hid hM
  have HN := Lib.hid hN
  have HSS := Lib.hid hss
  have hc100 : c < 100 := by have := txtsR_lt N M (s.data.toList.drop at_); rw [hR] at this; exact this
  clear hr hN hM hR hss
  go_enter Tryd.func26, Tryd.ntmps26
  go_wp2_with fail
  obtain ⟨W, hW⟩ : ∃ W, (((w.alloc (.cells #[.pointer (some ⟨g, 0, none⟩)] 30)).alloc (.cells #[.int .i64 most] 3)).alloc (.cells #[.int .i64 each] 3)).alloc (.cells #[.slice none 0 0] 23) = W := ⟨_, rfl⟩
  obtain ⟨c0, c1, c2, c3, cf, hB, hz⟩ := boxes4 w (.pointer (some ⟨g, 0, none⟩)) (.int .i64 most) (.int .i64 each) (.slice none 0 0) 30 3 3 23
  rw [hW] at c0 c1 c2 c3 cf hB hz ⊢
  have hr1 := HR.out.below hB
  refine (keep_boxP _ _ (ListIs W.heap.size ss) c k g _ s at_ w W hB (by omega) hlt hr1 (enterTexts _) (Texts1_any most each N M g w.heap.size (w.heap.size + 1) (w.heap.size + 1 + 1) (w.heap.size + 1 + 1 + 1) ss s at_ c k W HN.out hN2 HM.out hM2 HRR.out hs ha hr1 c0 c1 c2 c3 cf (by omega) (by omega) (by omega)) hc100).mono ?_
  clear hr1 c0 c1 c2 c3 cf hW
  rintro e w1 ⟨E, x, rfl, hE, hx, hxz, hP, hxf, hR, hO⟩
  have HE := Lib.hid hE
  have HR1 := Lib.hid hR
  have HO := Lib.hid hO
  clear hR hO
  rcases hE with ⟨rfl, rfl⟩ | ⟨hc0, _, b, rfl, hF⟩
  · have HP := Lib.hid (hP rfl)
    obtain ⟨A, nA, cA, rfl⟩ := HP.out.form
    clear hP
    go_wp2_with fail
    have hcell : (w1.setCell ⟨w.heap.size + 1 + 1 + 1, 0, none⟩ (.slice A nA cA)).cell? ⟨w.heap.size + 1 + 1 + 1, 0, none⟩ = some (.slice A nA cA) := by rw [World.cell?_setCell_same _ _ _ hx]
    obtain ⟨h1, h2⟩ := HSS.out (by trivial)
    have hfr := HP.out.fresh
    obtain ⟨a, cap, hv, hrow⟩ := (HP.out.setO ⟨w.heap.size + 1 + 1 + 1, 0, none⟩ (by simp only; omega) (.slice A nA cA)).row h1 h2
    injection hv with e1 e2 e3
    subst e1 e2 e3
    exact bodyPost_ret (v := .tuple #[.slice A ss.length cA, .nilIface]) (by simp [results, Tryd.results26, go_sem, asAddr, hcell]) rfl ⟨_, _, _, _, rfl, .inl ⟨rfl, rfl⟩, fun _ => ⟨rfl, hrow, fun b hb => by have := hfr b hb; omega⟩, fun h => absurd rfl h, HR1.out.setO (by omega) _, but_setN HO.out _ _ (by omega)⟩
  · clear hP
    have HF := Lib.hid hF
    clear hF
    go_wp2_with fail
    have hcell : (w1.setCell ⟨w.heap.size + 1 + 1 + 1, 0, none⟩ (.slice none 0 0)).cell? ⟨w.heap.size + 1 + 1 + 1, 0, none⟩ = some (.slice none 0 0) := by rw [World.cell?_setCell_same _ _ _ hx]
    exact bodyPost_ret (v := .tuple #[.slice none 0 0, .iface 115 (.pointer (some ⟨b, 0, none⟩))]) (by simp [results, Tryd.results26, go_sem, asAddr, hcell]) rfl ⟨_, _, _, _, rfl, .inr ⟨hc0, hc100, b, rfl, HF.out.setO hx hxz⟩, fun h => absurd h hc0, fun _ => rfl, HR1.out.setO (by omega) _, but_setN HO.out _ _ (by omega)⟩
theorem RTexts_any (most each : Int) (N M g : Nat) (ss : List ByteArray) (s : ByteArray) (at_ c k : Nat) (w : World) (hN : max most 0 = (N : Int)) (hN2 : N ≤ 65536) (hM : max each 0 = (M : Int)) (hM2 : M ≤ 9223372036854775807)
    (hR : txtsR N M (s.data.toList.drop at_) = (ss.map (fun s => s.data.toList), c, k)) (hss : c = 0 → ss.length ≤ maxLen ∧ ∀ x ∈ ss, x.size ≤ maxLen) (hs : s.size ≤ 140737488355328) (ha : at_ ≤ s.size) (hr : RAt w g s at_) :
    Calls Tryd.prog 26 #[.pointer (some ⟨g, 0, none⟩), .int .i64 most, .int .i64 each] w (TextsIs ss c k g s at_ w) :=
  (RTextsF_any most each N M g ss s at_ c k w hN hN2 hM hM2 hR hss hs ha hr).mono fun _ _ ⟨E, a, n, cap, he, hE, h0, h1, h2, h3⟩ => ⟨E, a, n, cap, he, hE, fun h => ⟨(h0 h).1, (h0 h).2.1⟩, h1, h2, h3⟩
end Go.Proofs.YtnfknbjdggkdpaaDoor
