/-
  Lose. No statement is proved here.
-/
import Derived.Test.YtbmlgnmilolamaaDoorLoseB
import Derived.Test.YtbmlgnmilolamaaDoorMineW
namespace Go.Proofs.YtbmlgnmilolamaaDoor
open Go.RowKit
theorem keep_lose (σ : NetS) (e : Int) : (σ.lose e).way = keep e σ.way := by
  show σ.way.filter _ = σ.way.filter _
  congr 1
  funext x
  unfold toE
  by_cases h : x.2.2.2.1 = e <;> simp [h]
def LoseIs (σ : NetS) (e : Int) (w : World) (p : Nat) (fv wv : Value) (en : Ending) (w' : World) : Prop :=
  NetTo w p fv wv (σ.lose e) w' ∧ en = .returned (.int .i64 ((σ.way.length : Int) - (keep e σ.way).length))
set_option maxHeartbeats 4000000 in
set_option maxRecDepth 100000 in
theorem Lose_at (σ : NetS) (hlen : σ.way.length ≤ 4096) (e : Int) (p : Nat) (fv wv : Value) (w : World) (h : NetAt w p fv wv σ) :
    Calls Tryd.prog 10 #[.pointer (some ⟨p, 0, none⟩), .int .i64 e] w (LoseIs σ e w p fv wv) := by
  have HN := Lib.hid h
  obtain ⟨wa, wcap, rfl, hwc, hwm, _⟩ := way_view h.hw
  obtain ⟨n, hn⟩ : ∃ n, σ.way.length = n := ⟨_, rfl⟩
  have HNL := Lib.hid hn
  unfold LoseIs
  obtain ⟨m, hm⟩ : ∃ m, (keep e σ.way).length = m := ⟨_, rfl⟩
  have HM := Lib.hid hm
  have hmn : m ≤ n := by rw [← hm, ← hn]; exact List.length_filter_le _ _
  rw [hn] at HN ⊢
  rw [hm]
  clear hwc hwm
  have hB1 : Below w.heap.size w (w.alloc (.cells #[.int .i64 e] 3)) := (Below.refl _ _).alloc (Nat.le_refl _) _
  obtain ⟨W1, hW1⟩ : ∃ W, w.alloc (.cells #[.int .i64 e] 3) = W := ⟨_, rfl⟩
  obtain ⟨cb, hcb⟩ : ∃ b, w.heap.size = b := ⟨_, rfl⟩
  rw [hW1] at hB1
  have hcell : W1.heap[cb]? = some (.cells #[.int .i64 e] 3 (0, 0)) := by rw [← hW1, ← hcb]; exact heap_alloc_new w _
  have HB1 := Lib.hid hB1
  have hN1 := HN.out.below hB1
  have HN1 := Lib.hid hN1
  have n4 : W1.cell? ⟨p, 4, none⟩ = some (.slice wa n wcap) := hN1.cell 4
  have H1 := Lib.hid (none_at hN1)
  have HD := Lib.hid (DeleteF_any e cb σ.way (.slice wa n wcap) W1 (by have := hN1.hw; exact this) hlen hcell)
  unfold DelIs at HD
  rw [hm] at HD
  have hw1 : IntKind.i64.wrap ((n : Int) - (m : Int)) = (n : Int) - (m : Int) := by rw [IntKind.wrap_i64]; omega
  have hn2 : n ≤ 4096 := by omega
  clear h hn hm hB1 hN1 hcell hlen
  go_enter Tryd.func10, Tryd.ntmps10
  go_upto_region 1 with fail
  try rw [hW1]
  try simp only [hcb]
  clear hW1 hcb
  go_wp2_with fail
  refine H1.out.mono ?_; rintro en w' ⟨rfl, rfl⟩
  go_wp2_with fail
  refine HD.out.mono ?_; rintro en w2 ⟨a, c, rfl, hown, hO, hblk⟩
  have hp : w2.heap[p]? = _ := hO.heap HN1.out.hp HN1.out.way_ne
  have c4 : w2.cell? ⟨p, 4, none⟩ = some (.slice wa n wcap) := by rw [cell_of_row w2 p 4 _ _ _ hp]; rfl
  have f4 : w2.frozen? ⟨p, 4, none⟩ = false := frozen_of_row w2 p 4 _ _ hp
  have HT : Hid (NetTo w p fv (.slice wa n wcap) (σ.lose e) (w2.setCell ⟨p, 4, none⟩ (.slice a m c))) := Lib.hid (by
    refine HN.out.put 4 _ _ _ w2 ((Only.of_below (S := foot p (.slice wa n wcap)) HB1.out).trans hO (fun i hi => .inl (.inr hi))) hp (by simp [NetS.lose]) ?_ rfl rfl (.inl hblk)
    rw [keep_lose, HM.out]
    exact hown)
  clear hown hO hblk hp
  go_wp2_with fail
  go_ret
  exact ⟨HT.out, rfl⟩
theorem mine_lose {w0 w : World} {p : Nat} {σ : NetS} (e : Int) (h : Mine w0 w p σ) :
    Calls Tryd.prog 10 #[.pointer (some ⟨p, 0, none⟩), .int .i64 e] w (MineIs (.int .i64 ((σ.way.length : Int) - (keep e σ.way).length)) w0 w p (σ.lose e)) := by
  obtain ⟨h1, h2, h3, fv, wv, h4, h5⟩ := h
  refine (Lose_at σ h2.len e p fv wv w h4).mono ?_
  rintro en w' ⟨hT, rfl⟩
  exact ⟨rfl, Mine.later h1 h3 h5 hT (lose_ok h2 e), Kept.of_to h4 hT⟩
theorem mine_sent {w0 w : World} {p : Nat} {σ : NetS} (h : Mine w0 w p σ) :
    Calls Tryd.prog 11 #[.pointer (some ⟨p, 0, none⟩)] w fun e w' => e = .returned (.int .i64 σ.sent) ∧ w = w' := by
  obtain ⟨h1, h2, h3, fv, wv, h4, h5⟩ := h
  exact Sent_at h4
end Go.Proofs.YtbmlgnmilolamaaDoor
