/-
  Ends; 'stands'. No statement is proved here.
-/
import Derived.Test.YtbmlgnmilolamaaDoorSameW
import Derived.Deep.RegionHeld3
namespace Go.Proofs.YtbmlgnmilolamaaDoor
open Go.RowKit
theorem Ends_at {w : World} {p : Nat} {fv wv : Value} {σ : NetS} (h : NetAt w p fv wv σ) : Calls Tryd.prog 21 #[.pointer (some ⟨p, 0, none⟩)] w fun e w' => e = .returned (.int .i64 σ.ends) ∧ w = w' := by
  have H1 := Lib.hid (none_at h)
  have c0 : w.cell? ⟨p, 0, none⟩ = some (.int .i64 σ.ends) := h.cell 0
  clear h
  go_enter Tryd.func21, Tryd.ntmps21
  go_wp2_with fail
  refine H1.out.mono ?_; rintro e w' ⟨rfl, rfl⟩
  go_wp2_with fail
  go_ret
  exact ⟨rfl, rfl⟩
set_option maxHeartbeats 4000000 in
set_option maxRecDepth 100000 in
theorem stands_at (σ ρ : NetS) (ok : NetOK σ) (he : ρ.ends = σ.ends) (hn : ρ.now = σ.now) (hse : ρ.sent = σ.sent) (hp : ρ.way.Perm σ.way) (p q : Nat) (fv wv fr wr : Value) (w : World) (h : NetAt w p fv wv σ) (hr : RefAt w q fr wr ρ) :
    Calls Tryd.prog 19 #[.pointer (some ⟨p, 0, none⟩), .pointer (some ⟨q, 0, none⟩)] w fun e w' => e = .returned (.bool true) ∧ Below w.heap.size w w' := by
  have HN := Lib.hid h
  have HR := Lib.hid hr
  have HD : Hid (Below w.heap.size w w.drew) := Lib.hid (below_drewN (Below.refl _ _) 1)
  have HF := Lib.hid (Flying_at σ ok.len p fv wv w.drew (h.below HD.out))
  have HRF : Hid (∀ W, Below w.drew.heap.size w.drew W → Calls Tryd.prog 38 #[.pointer (some ⟨q, 0, none⟩)] W (FlyIs (σ.way.map (fun x => x.2.2)) W)) := Lib.hid (fun W hb => rFlying_at ρ σ.way ok.sorted hp (by rw [hp.length_eq]; exact ok.len) q fr wr W (hr.below (HD.out.trans hb)))
  have HT : Hid (∀ W, Below w.heap.size w W → Calls Tryd.prog 20 #[.pointer (some ⟨p, 0, none⟩)] W fun e w' => e = .returned (.int .i64 σ.now) ∧ W = w') := Lib.hid (fun W hb => Time_at (h.below hb))
  have HS : Hid (∀ W, Below w.heap.size w W → Calls Tryd.prog 11 #[.pointer (some ⟨p, 0, none⟩)] W fun e w' => e = .returned (.int .i64 σ.sent) ∧ W = w') := Lib.hid (fun W hb => Sent_at (h.below hb))
  have HE : Hid (∀ W, Below w.heap.size w W → Calls Tryd.prog 21 #[.pointer (some ⟨p, 0, none⟩)] W fun e w' => e = .returned (.int .i64 σ.ends) ∧ W = w') := Lib.hid (fun W hb => Ends_at (h.below hb))
  have HLEN := Lib.hid ok.len
  obtain ⟨L, hL⟩ : ∃ L, σ.way.map (fun x => x.2.2) = L := ⟨_, rfl⟩
  have hLl : L.length ≤ 4096 := by rw [← hL, List.length_map]; exact ok.len
  rw [hL] at HF HRF
  have H0 := Lib.hid he
  have H1 := Lib.hid hn
  have H2 := Lib.hid hse
  have HSA : Hid (∀ (W : World) (a1 a2 : Option Addr) (c1 c2 : Nat) (B C : Nat), PkRow W B (.slice a1 L.length c1) L → PkRow W C (.slice a2 L.length c2) L → (∀ g, (Value.slice a1 L.length c1).ownBlock = some g → g < C) → w.heap.size ≤ B → Below w.heap.size w W → Calls Tryd.prog 37 #[.slice a1 L.length c1, .slice a2 L.length c2] W fun e w' => e = .returned (.bool true) ∧ Hid (Below w.heap.size w w' ∧ w'.cell? ⟨q, 0, none⟩ = some (.int .i64 σ.ends) ∧ w'.cell? ⟨q, 1, none⟩ = some (.int .i64 σ.now) ∧ w'.cell? ⟨q, 2, none⟩ = some (.int .i64 σ.sent))) := Lib.hid (fun W a1 a2 c1 c2 B C h1 h2 hlt hBw hb => by
    refine (same_any L L B C _ _ W h1 h2 (fun g hg hg2 => by have := hlt g hg; have := (h2.lt g hg2).1; omega) (by omega)).mono ?_
    rintro e w' ⟨rfl, ho⟩
    refine ⟨by rw [decide_eq_true rfl], Lib.hid ?_⟩
    have hb2 : Below w.heap.size w w' := hb.trans (ho.below hb.size (fun k hk => Nat.le_trans hBw (h1.lt k hk).1))
    have hr2 := HR.out.below hb2
    refine ⟨hb2, ?_, ?_, ?_⟩
    · rw [← H0.out]; exact hr2.cell 0
    · rw [← H1.out]; exact hr2.cell 1
    · rw [← H2.out]; exact hr2.cell 2)
  clear h hr ok he hn hse hp hL
  go_enter Tryd.func19, Tryd.ntmps19
  go_upto_region 1 with fail
  have HQ : Hid (∀ W, Below w.heap.size w W → W.cell? ⟨q, 0, none⟩ = some (.int .i64 σ.ends) ∧ W.cell? ⟨q, 1, none⟩ = some (.int .i64 σ.now) ∧ W.cell? ⟨q, 2, none⟩ = some (.int .i64 σ.sent)) := Lib.hid (fun W hb => by
    have hr2 := HR.out.below hb
    exact ⟨by rw [← H0.out]; exact hr2.cell 0, by rw [← H1.out]; exact hr2.cell 1, by rw [← H2.out]; exact hr2.cell 2⟩)
  go_region_held3 (fun w' => w'.cell? ⟨q, 0, none⟩ = some (.int .i64 σ.ends) ∧ w'.cell? ⟨q, 1, none⟩ = some (.int .i64 σ.now) ∧ w'.cell? ⟨q, 2, none⟩ = some (.int .i64 σ.sent))
    (first | exact HQ.out _ HD.out | exact ⟨r0, r1, r2⟩ | exact HQ.out _ (HD.out.trans (hB2.trans (hB3.mono hB2.size))) | exact HQ.out _ (HD.out.trans hB2) | go_keep)
    (first
    | (go_at_call 22; refine HF.out.mono ?_; rintro e W2 ⟨a1, c1, rfl, hP1, hB2⟩)
    | (go_at_call 38; refine (HRF.out W2 hB2).mono ?_; rintro e W3 ⟨a2, c2, rfl, hP2, hB3⟩)
    | (go_at_call 37; refine (HSA.out W3 a1 a2 c1 c2 _ _ (hP1.below hB3) hP2 (fun g hg => (hP1.lt g hg).2) (by have := HD.out.size; exact this) (HD.out.trans (hB2.trans (hB3.mono hB2.size)))).mono ?_; rintro e W4 ⟨rfl, HZ⟩; obtain ⟨hb4, r0, r1, r2⟩ := HZ.out)
    | (go_at_call 20; refine (HT.out W4 hb4).mono ?_; rintro e w' ⟨rfl, rfl⟩)
    | (go_at_call 11; refine (HS.out W4 hb4).mono ?_; rintro e w' ⟨rfl, rfl⟩)
    | (go_at_call 21; refine (HE.out W4 hb4).mono ?_; rintro e w' ⟨rfl, rfl⟩))
  all_goals (go_wp2_with fail)
  all_goals go_ret
  all_goals exact ⟨rfl, hb4⟩
end Go.Proofs.YtbmlgnmilolamaaDoor
