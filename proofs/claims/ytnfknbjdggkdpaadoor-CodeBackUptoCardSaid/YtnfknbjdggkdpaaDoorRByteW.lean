/-
  code.Reader.Byte and Word. No statement is proved here.
-/
import Derived.Test.YtnfknbjdggkdpaaDoorREndW
import Derived.Test.YtnfknbjdggkdpaaDoorWordPlain
namespace Go.Proofs.YtnfknbjdggkdpaaDoor
open Go.RowKit
theorem enterByte (caps : Array Value) (w : World) : (callFunc 83 caps).run Tryd.prog w = .ok (.enter 83 caps) w := by kernel_rfl
theorem enterWord (caps : Array Value) (w : World) : (callFunc 64 caps).run Tryd.prog w = .ok (.enter 64 caps) w := by kernel_rfl
/-- What a reading of a byte comes to. -/
def bytR : List UInt8 → Nat × Nat × Nat
  | [] => (0, 20, 0)
  | b :: _ => (b.toNat, 0, 1)
set_option maxHeartbeats 2000000 in
set_option maxRecDepth 100000 in
theorem Byte1_any (g b0 b1 : Nat) (s : ByteArray) (at_ x c k : Nat) (w : World) (hN : bytR (s.data.toList.drop at_) = (x, c, k)) (hs : s.size ≤ 140737488355328) (ha : at_ ≤ s.size) (hr : RAt w g s at_)
    (h0 : w.cell? ⟨b0, 0, none⟩ = some (.pointer (some ⟨g, 0, none⟩))) (h1 : w.cell? ⟨b1, 0, none⟩ = some (.int .u8 0)) (hf : w.frozen? ⟨b1, 0, none⟩ = false) (hg : g ≠ b1) (hb0 : b0 ≠ b1) :
    Calls Tryd.prog 83 #[.pointer (some ⟨b0, 0, none⟩), .pointer (some ⟨b1, 0, none⟩)] w (DoIs g s (RBox (.int .u8 x) c k g b1 s at_ w)) := by
  have HR := Lib.hid hr
  have HN := Lib.hid hN
  obtain ⟨r0, r1, r2⟩ := hr
  clear hN
  by_cases hlt : at_ < s.size
  · obtain ⟨b, hb⟩ : ∃ b, s[at_] = b := ⟨_, rfl⟩
    have hdrop : s.data.toList.drop at_ = b :: s.data.toList.drop (at_ + 1) := by
      rw [List.drop_eq_getElem_cons (by rw [ba_len]; exact hlt)]
      congr 1
    have hne : ((at_ : Int) == (s.size : Int)) = false := beq_eq_false_iff_ne.2 (by omega)
    go_enter Tryd.func83, Tryd.ntmps83
    go_wp2_with fail
    go_quiet (fail)
    go_wp2_with fail
    go_region
    go_wp2_with fail
    go_ret
    have hN := HN.out
    rw [hdrop, bytR] at hN
    injection hN with e1 e2
    injection e2 with e2 e3
    subst e1 e2 e3
    have hx1 : (w.drewN (nq + 1)).cell? ⟨b1, 0, none⟩ = some (.int .u8 0) := by rw [World.cell?_drewN]; exact h1
    have hRR : RAt (((w.drewN (nq + 1)).setCell ⟨b1, 0, none⟩ (.int .u8 (b.toNat : Int))).setCell ⟨g, 1, none⟩ (.int .i64 ((at_ + 1 : Nat) : Int))) g s (at_ + 1) := ((HR.out.drewN _).setO hg _).set (at_ + 1)
    refine ⟨0, rfl, ⟨rfl, ?_, ?_, fun _ => hRR, ⟨_, hRR⟩, (((But2.refl w g b1).drewN _).set _ (.inr rfl) _).set _ (.inl rfl) _⟩, _, hRR⟩
    · rw [World.cell?_setCell_other _ _ _ _ (by intro e; injection e with e1 e2; omega), World.cell?_setCell_same _ _ _ hx1]
    · rw [World.frozen?_setCell, World.frozen?_setCell, World.frozen?_drewN]; exact hf
  · have he : at_ = s.size := by omega
    go_enter Tryd.func83, Tryd.ntmps83
    go_wp2_with fail
    go_quiet (fail)
    go_wp2_with fail
    go_ret
    have hN := HN.out
    rw [List.drop_of_length_le (by rw [ba_len]; omega), bytR] at hN
    injection hN with e1 e2
    injection e2 with e2 e3
    subst e1 e2 e3
    refine ⟨20, rfl, ⟨rfl, by rw [World.cell?_drewN]; exact h1, by rw [World.frozen?_drewN]; exact hf, (fun h => by cases h), ⟨_, HR.out.drewN _⟩, (But2.refl w g b1).drewN _⟩, _, HR.out.drewN _⟩
theorem boxes2 (w : World) (x y : Value) (t1 t2 : TypeId) :
    ((w.alloc (.cells #[x] t1)).alloc (.cells #[y] t2)).cell? ⟨w.heap.size, 0, none⟩ = some x ∧
    ((w.alloc (.cells #[x] t1)).alloc (.cells #[y] t2)).cell? ⟨w.heap.size + 1, 0, none⟩ = some y ∧
    ((w.alloc (.cells #[x] t1)).alloc (.cells #[y] t2)).frozen? ⟨w.heap.size + 1, 0, none⟩ = false ∧
    Below w.heap.size w ((w.alloc (.cells #[x] t1)).alloc (.cells #[y] t2)) ∧
    ((w.alloc (.cells #[x] t1)).alloc (.cells #[y] t2)).heap.size = w.heap.size + 2 := by
  have s1 : (w.alloc (.cells #[x] t1)).heap.size = w.heap.size + 1 := by simp
  refine ⟨?_, ?_, ?_, ?_, by simp⟩
  · rw [World.cell?_alloc_lt _ _ _ (by simp), World.cell?_alloc_mark]; rfl
  · rw [← s1, World.cell?_alloc_mark]; rfl
  · rw [← s1, World.frozen?_alloc_mark]; rfl
  · exact ((Below.refl _ _).alloc (Nat.le_refl _) _).alloc (by simp) _
theorem bytR_lt (l : List UInt8) : (bytR l).2.1 < 100 := by cases l <;> simp [bytR]
set_option maxHeartbeats 1000000 in
set_option maxRecDepth 100000 in
theorem RByte_any (g : Nat) (s : ByteArray) (at_ x c k : Nat) (w : World) (hN : bytR (s.data.toList.drop at_) = (x, c, k)) (hs : s.size ≤ 140737488355328) (ha : at_ ≤ s.size) (hr : RAt w g s at_) :
    Calls Tryd.prog 68 #[.pointer (some ⟨g, 0, none⟩)] w (MethodIs (.int .u8 x) c k g s at_ w) := by
  have hlt := hr.lt
  have HR := Lib.hid hr
  have HNN := Lib.hid hN
  have hc100 : c < 100 := by have := bytR_lt (s.data.toList.drop at_); rw [hN] at this; exact this
  clear hr hN
  go_enter Tryd.func68, Tryd.ntmps68
  go_wp2_with fail
  obtain ⟨W, hW⟩ : ∃ W, (w.alloc (.cells #[.pointer (some ⟨g, 0, none⟩)] 30)).alloc (.cells #[.int .u8 0] 5) = W := ⟨_, rfl⟩
  obtain ⟨c0, c2, cf, hB, hz⟩ := boxes2 w (.pointer (some ⟨g, 0, none⟩)) (.int .u8 0) 30 5
  rw [hW] at c0 c2 cf hB hz ⊢
  have hr1 := HR.out.below hB
  refine (keep_box _ _ (.int .u8 x) c k g _ s at_ w W hB (by omega) hlt hr1 (enterByte _) (Byte1_any g w.heap.size (w.heap.size + 1) s at_ x c k W HNN.out hs ha hr1 c0 c2 cf (by omega) (by omega)) hc100).mono ?_
  clear hr1 c0 c2 cf hW
  rintro e w1 ⟨E, rfl, hE, hx, hxf, hR, hO⟩
  have HE := Lib.hid hE
  have HR1 := Lib.hid hR
  have HO := Lib.hid hO
  clear hE hR hO
  go_wp2_with fail
  have hcell : (w1.setCell ⟨w.heap.size + 1, 0, none⟩ (.int .u8 (x : Int))).cell? ⟨w.heap.size + 1, 0, none⟩ = some (.int .u8 (x : Int)) := by rw [World.cell?_setCell_same _ _ _ hx]
  refine bodyPost_ret (v := .tuple #[.int .u8 x, E]) (by simp [results, Tryd.results68, go_sem, asAddr, hcell]) rfl ⟨E, rfl, HE.out.setO hx ?_, HR1.out.setO (by omega) _, but_setN HO.out _ _ (by omega)⟩
  intro z e; cases e
end Go.Proofs.YtnfknbjdggkdpaaDoor
