/-
  The program's net and the document's, side by side: what each call makes of the two. No statement is proved here.
-/
import Derived.Test.YtbmlgnmilolamaaDoorRefH
import Derived.Test.YtbmlgnmilolamaaDoorStandsW
import Derived.Test.YtbmlgnmilolamaaDoorCopyW
import Derived.Test.YtbmlgnmilolamaaDoorCodeN
import Derived.Test.YtbmlgnmilolamaaDoorLoseW
namespace Go.Proofs.YtbmlgnmilolamaaDoor
open Go.RowKit
theorem send_now (σ : NetS) (x y : Int) (s : ByteArray) : (σ.send x y s).2.now = σ.now ∧ (σ.send x y s).2.fates = σ.fates ∧ (σ.send x y s).2.sent ≤ σ.sent + 1 := by
  unfold NetS.send
  repeat' split
  all_goals exact ⟨rfl, rfl, by first | exact Nat.le_succ _ | exact Nat.le_refl _⟩
theorem next_now (σ : NetS) : σ.next.2.now = σ.now ∧ σ.next.2.fates = σ.fates ∧ σ.next.2.sent = σ.sent := by
  unfold NetS.next
  repeat' split
  all_goals exact ⟨rfl, rfl, rfl⟩
/-- An error's value that says this number (0: none). -/
def SentV (c : Nat) (w : World) (v : Value) : Prop := (c = 0 ∧ v = .nilIface) ∨ (c ≠ 0 ∧ ∃ b, v = .iface 69 (.pointer (some ⟨b, 0, none⟩)) ∧ FltAt w b c (-1))
theorem code_sent (c : Nat) (w : World) (v : Value) (h : SentV c w v) (hH : Handle w) : Calls Tryd.prog 8 #[v] w (CodeIs c (-1) w) := by
  rcases h with ⟨rfl, rfl⟩ | ⟨_, b, rfl, hF⟩
  · exact code_nil w
  · exact code_fault b c (-1) w hF hH
theorem mine_sends {w0 w : World} {p : Nat} {σ : NetS} (x y : Int) (s : ByteArray) (hs : s.size ≤ 140737488355328) (sm : Small σ) (h : Mine w0 w p σ) :
    Calls Tryd.prog 7 #[.pointer (some ⟨p, 0, none⟩), .int .i64 x, .int .i64 y, .string s] w fun e w' => ∃ v, e = .returned v ∧ SentV (σ.send x y s).1 w' v ∧ Mine w0 w' p (σ.send x y s).2 ∧ Kept w w' := by
  obtain ⟨h1, h2, h3, fv, wv, h4, h5⟩ := h
  refine (Send_at σ h2 sm.1 sm.2 x y s p fv wv w h4 hs).mono ?_
  rintro e w' ⟨hT, hE⟩
  have ok := send_ok h2 x y s
  have hm := Mine.later h1 h3 h5 hT ok
  have hk := Kept.of_to h4 hT
  rcases hE with ⟨h0, rfl⟩ | ⟨h0, b, rfl, hF⟩
  · exact ⟨_, rfl, .inl ⟨h0, rfl⟩, hm, hk⟩
  · exact ⟨_, rfl, .inr ⟨h0, b, rfl, hF⟩, hm, hk⟩
/-- The document's net, made behind 'w0'. -/
def RMine (w0 w : World) (q : Nat) (ρ : NetS) : Prop := w0.heap.size ≤ q ∧ ∃ fr wr, RefAt w q fr wr ρ ∧ ∀ g, wr.ownBlock = some g → w0.heap.size ≤ g
theorem RMine.kept {w0 w w' : World} {q : Nat} {ρ : NetS} (h : RMine w0 w q ρ) (k : Kept w w') : RMine w0 w' q ρ := by
  obtain ⟨h1, fr, wr, h2, h3⟩ := h
  exact ⟨h1, fr, wr, h2.kept k, h3⟩
theorem RMine.below {w0 w w' : World} {q : Nat} {ρ : NetS} (h : RMine w0 w q ρ) (k : Below w.heap.size w w') : RMine w0 w' q ρ := h.kept (Kept.of_below k)
/-- Both nets. -/
def Pair (w0 w : World) (p q : Nat) (σ ρ : NetS) : Prop := Mine w0 w p σ ∧ RMine w0 w q ρ
theorem Pair.net {w0 w w' : World} {p p' q : Nat} {σ σ' ρ : NetS} (h : Pair w0 w p q σ ρ) (m : Mine w0 w' p' σ') (k : Kept w w') : Pair w0 w' p' q σ' ρ := ⟨m, h.2.kept k⟩
theorem Pair.below {w0 w w' : World} {p q : Nat} {σ ρ : NetS} (h : Pair w0 w p q σ ρ) (k : Below w.heap.size w w') : Pair w0 w' p q σ ρ := ⟨h.1.below k, h.2.below k⟩
theorem Pair.ref {w0 w w' : World} {p q : Nat} {σ ρ ρ' : NetS} {fr wr : Value} (h : Mine w0 w p σ) (hq : w0.heap.size ≤ q) (hr : RefAt w q fr wr ρ) (hw : ∀ g, wr.ownBlock = some g → w0.heap.size ≤ g) (hT : RefTo w q fr wr ρ' w') : Pair w0 w' p q σ ρ' ∧ RKept w w' := by
  have hk := RKept.of_to hr hT
  obtain ⟨wr', k1, k2, k3⟩ := hT
  obtain ⟨h1, h2, h3, fv, wv, h4, h5⟩ := h
  refine ⟨⟨⟨h1.trans (k2.below h1.size (fun k hk => ?_)), h2, h3, fv, wv, h4.rkept hk, h5⟩, hq, fr, wr', k1, fun g hg => ?_⟩, hk⟩
  · rcases hk with rfl | hk
    · exact hq
    · exact hw k hk
  · rcases k3 with k3 | k3
    · exact hw g (k3.symm.trans hg)
    · exact Nat.le_trans h1.size (k3 g hg)
theorem pair_send {w0 w : World} {p q : Nat} {σ ρ : NetS} (x y : Int) (s : ByteArray) (hs : s.size ≤ 140737488355328) (sm : Small σ) (h : Pair w0 w p q σ ρ) :
    Calls Tryd.prog 7 #[.pointer (some ⟨p, 0, none⟩), .int .i64 x, .int .i64 y, .string s] w fun e w' => ∃ v, e = .returned v ∧ SentV (σ.send x y s).1 w' v ∧ Pair w0 w' p q (σ.send x y s).2 ρ ∧ Kept w w' := by
  refine (mine_sends x y s hs sm h.1).mono ?_
  rintro e w' ⟨v, rfl, hv, hm, hk⟩
  exact ⟨v, rfl, hv, h.net hm hk, hk⟩
theorem pair_rsend {w0 w : World} {p q : Nat} {σ ρ : NetS} (x y : Int) (s : ByteArray) (hs : s.size ≤ 140737488355328) {σ0 : NetS} (ok : NetOK σ0) (tw : Twin σ0 ρ) (sm : Small σ0) (h : Pair w0 w p q σ ρ) :
    Calls Tryd.prog 14 #[.pointer (some ⟨q, 0, none⟩), .int .i64 x, .int .i64 y, .string s] w fun e w' => e = .returned (.int .i64 (σ0.send x y s).1) ∧ Twin (σ0.send x y s).2 (ρ.rsend x y s).2 ∧ Pair w0 w' p q σ (ρ.rsend x y s).2 ∧ RKept w w' := by
  obtain ⟨h1, h2, fr, wr, h3, h4⟩ := h
  refine (rSend_at ρ (by rw [tw.way.length_eq]; exact ok.len) (by rw [tw.fate]; exact fate_ok ok) (by rw [tw.now]; exact sm.1) (by rw [tw.sent]; exact sm.2) x y s q fr wr w h3 hs).mono ?_
  rintro e w' ⟨hT, rfl⟩
  obtain ⟨t1, t2⟩ := tw.send x y s
  obtain ⟨hp, hk⟩ := Pair.ref h1 h2 h3 h4 hT
  exact ⟨by rw [t1], t2, hp, hk⟩
theorem mine_nexts {w0 w : World} {p : Nat} {σ : NetS} (h : Mine w0 w p σ) :
    Calls Tryd.prog 9 #[.pointer (some ⟨p, 0, none⟩)] w (MineIs (.tuple #[nextV σ.next.1, .bool σ.next.1.isSome]) w0 w p σ.next.2) := mine_next rfl h
theorem pair_next {w0 w : World} {p q : Nat} {σ ρ : NetS} (h : Pair w0 w p q σ ρ) :
    Calls Tryd.prog 9 #[.pointer (some ⟨p, 0, none⟩)] w fun e w' => e = .returned (.tuple #[nextV σ.next.1, .bool σ.next.1.isSome]) ∧ Pair w0 w' p q σ.next.2 ρ ∧ Kept w w' := by
  refine (mine_nexts h.1).mono ?_
  rintro e w' ⟨rfl, hm, hk⟩
  exact ⟨rfl, h.net hm hk, hk⟩
theorem pair_rnext {w0 w : World} {p q : Nat} {σ ρ : NetS} {σ0 : NetS} (ok : NetOK σ0) (tw : Twin σ0 ρ) (h : Pair w0 w p q σ ρ) :
    Calls Tryd.prog 15 #[.pointer (some ⟨q, 0, none⟩)] w fun e w' => e = .returned (.tuple #[nextV σ0.next.1, .bool σ0.next.1.isSome]) ∧ (∃ ρ', Twin σ0.next.2 ρ' ∧ Pair w0 w' p q σ ρ') ∧ RKept w w' := by
  obtain ⟨h1, h2, fr, wr, h3, h4⟩ := h
  refine (rNext_at ρ (by rw [tw.way.length_eq]; exact ok.len) q fr wr w h3).mono ?_
  rintro e w' ⟨r, hr, hT, rfl⟩
  obtain ⟨t1, t2⟩ := tw.next ok.sorted hr
  obtain ⟨hp, hk⟩ := Pair.ref h1 h2 h3 h4 hT
  exact ⟨by rw [t1], ⟨r.2, t2, hp⟩, hk⟩
theorem pair_tick {w0 w : World} {p q : Nat} {σ ρ : NetS} (sm : Small σ) (h : Pair w0 w p q σ ρ) :
    Calls Tryd.prog 16 #[.pointer (some ⟨p, 0, none⟩)] w fun e w' => e = .returned (.int .i64 (σ.now + 1 : Nat)) ∧ Pair w0 w' p q σ.tick ρ ∧ Kept w w' := by
  refine (mine_tick sm h.1).mono ?_
  rintro e w' ⟨rfl, hm, hk⟩
  exact ⟨rfl, h.net hm hk, hk⟩
/-- The document's clock is set by the caller. -/
theorem pair_rtick {w0 w : World} {p q : Nat} {σ ρ : NetS} (h : Pair w0 w p q σ ρ) :
    w.cell? ⟨q, 1, none⟩ = some (.int .i64 ρ.now) ∧ w.frozen? ⟨q, 1, none⟩ = false ∧ Pair w0 (w.setCell ⟨q, 1, none⟩ (.int .i64 (ρ.now + 1 : Nat))) p q σ ρ.tick ∧ (w.setCell ⟨q, 1, none⟩ (.int .i64 (ρ.now + 1 : Nat))).cell? ⟨q, 1, none⟩ = some (.int .i64 (ρ.now + 1 : Nat)) := by
  obtain ⟨h1, h2, fr, wr, h3, h4⟩ := h
  have hT : RefTo w q fr wr ρ.tick (w.setCell ⟨q, 1, none⟩ (.int .i64 (ρ.now + 1 : Nat))) :=
    RefAt.put h3 1 _ wr ρ.tick w (Only.refl _ _) h3.hp rfl h3.hw rfl rfl (.inl rfl)
  have hp := (Pair.ref h1 h2 h3 h4 hT).1
  refine ⟨h3.cell 1, h3.frozen 1, hp, ?_⟩
  obtain ⟨_, _, fr', wr', h3', _⟩ := hp
  exact h3'.cell 1
theorem Pair.rnow {w0 w : World} {p q : Nat} {σ ρ : NetS} (h : Pair w0 w p q σ ρ) : w.cell? ⟨q, 1, none⟩ = some (.int .i64 ρ.now) := by
  obtain ⟨_, _, _, _, h3, _⟩ := h
  exact h3.cell 1
theorem pair_lose {w0 w : World} {p q : Nat} {σ ρ : NetS} (x : Int) (h : Pair w0 w p q σ ρ) :
    Calls Tryd.prog 10 #[.pointer (some ⟨p, 0, none⟩), .int .i64 x] w fun e w' => e = .returned (.int .i64 ((σ.way.length : Int) - (keep x σ.way).length)) ∧ Pair w0 w' p q (σ.lose x) ρ ∧ Kept w w' := by
  obtain ⟨⟨h1, h2, h3, fv, wv, h4, h5⟩, hr⟩ := h
  refine (Lose_at σ h2.len x p fv wv w h4).mono ?_
  rintro e w' ⟨hT, rfl⟩
  have hk := Kept.of_to h4 hT
  exact ⟨rfl, ⟨Mine.later h1 h3 h5 hT (lose_ok h2 x), hr.kept hk⟩, hk⟩
theorem pair_rlose {w0 w : World} {p q : Nat} {σ ρ : NetS} (x : Int) {σ0 : NetS} (ok : NetOK σ0) (tw : Twin σ0 ρ) (h : Pair w0 w p q σ ρ) :
    Calls Tryd.prog 17 #[.pointer (some ⟨q, 0, none⟩), .int .i64 x] w fun e w' => e = .returned (.int .i64 ((σ0.way.length : Int) - (keep x σ0.way).length)) ∧ Twin (σ0.lose x) (ρ.lose x) ∧ Pair w0 w' p q σ (ρ.lose x) ∧ RKept w w' := by
  obtain ⟨h1, h2, fr, wr, h3, h4⟩ := h
  refine (rLose_at ρ (by rw [tw.way.length_eq]; exact ok.len) x q fr wr w h3).mono ?_
  rintro e w' ⟨hT, rfl⟩
  obtain ⟨t1, _⟩ := tw.lose x
  obtain ⟨hp, hk⟩ := Pair.ref h1 h2 h3 h4 hT
  refine ⟨?_, t1, hp, hk⟩
  have e1 : (keep x ρ.way).length = (keep x σ0.way).length := (tw.way.filter _).length_eq
  rw [tw.way.length_eq, e1]
/-- Both nets, in step. -/
def Play (w0 w : World) (p q j : Nat) : Prop := ∃ σ ρ, Twin σ ρ ∧ Pair w0 w p q σ ρ ∧ σ.now ≤ j ∧ σ.sent ≤ j ∧ σ.fates.length ≤ 500
theorem Play.base {w0 w : World} {p q j : Nat} (h : Play w0 w p q j) : Below w0.heap.size w0 w := by
  obtain ⟨σ, ρ, _, ⟨⟨h1, _⟩, _⟩, _⟩ := h
  exact h1
theorem Play.below {w0 w w' : World} {p q j : Nat} (h : Play w0 w p q j) (hb : Below w.heap.size w w') : Play w0 w' p q j := by
  obtain ⟨σ, ρ, h1, h2, h3⟩ := h
  exact ⟨σ, ρ, h1, h2.below hb, h3⟩
theorem Play.later {w0 w : World} {p q j k : Nat} (h : Play w0 w p q j) (hk : j ≤ k) : Play w0 w p q k := by
  obtain ⟨σ, ρ, h1, h2, h3, h4, h5⟩ := h
  exact ⟨σ, ρ, h1, h2, by omega, by omega, h5⟩
theorem play_stands {w0 w : World} {p q j : Nat} (h : Play w0 w p q j) :
    Calls Tryd.prog 19 #[.pointer (some ⟨p, 0, none⟩), .pointer (some ⟨q, 0, none⟩)] w fun e w' => e = .returned (.bool true) ∧ Play w0 w' p q j := by
  have hp := h
  obtain ⟨σ, ρ, tw, ⟨⟨h1, h2, h3, fv, wv, h4, h5⟩, _, fr, wr, h6, h7⟩, _⟩ := h
  refine (stands_at σ ρ h2 tw.ends tw.now tw.sent tw.way p q fv wv fr wr w h4 h6).mono ?_
  rintro e w' ⟨rfl, hb⟩
  exact ⟨rfl, hp.below hb⟩
/-- A copy. -/
def CopyM (w w' : World) (p : Nat) : Prop := ∃ σ, Mine w w' p σ ∧ Small σ
theorem play_copy {w0 w : World} {p q j : Nat} (hj : j < 1000) (h : Play w0 w p q j) :
    Calls Tryd.prog 18 #[.pointer (some ⟨p, 0, none⟩)] w fun e w' => ∃ p', e = .returned (.pointer (some ⟨p', 0, none⟩)) ∧ Play w0 w' p' q j ∧ CopyM w w' p' ∧ Play w0 w' p q j := by
  have hp := h
  obtain ⟨σ, ρ, tw, h1, h2, h3, h4⟩ := h
  refine (mine_copy (by omega) h1.1).mono ?_
  rintro e w' ⟨p', rfl, hm, hb⟩
  exact ⟨p', rfl, ⟨σ, ρ, tw, h1.net (hm.since h1.1.1) (Kept.of_below hb), h2, h3, h4⟩, ⟨σ, hm, by unfold Small; omega⟩, hp.below hb⟩
theorem copy_send {w w1 : World} {p : Nat} (x y : Int) (s : ByteArray) (hs : s.size ≤ 140737488355328) (h : CopyM w w1 p) :
    Calls Tryd.prog 7 #[.pointer (some ⟨p, 0, none⟩), .int .i64 x, .int .i64 y, .string s] w1 fun e w' => ∃ v, e = .returned v ∧ ∃ σ, Mine w w' p σ ∧ σ.now < 1125899906842624 := by
  obtain ⟨σ, h1, h2⟩ := h
  refine (mine_sends x y s hs h2 h1).mono ?_
  rintro e w' ⟨v, rfl, _, hm, _⟩
  exact ⟨v, rfl, _, hm, by rw [(send_now σ x y s).1]; exact h2.1⟩
theorem copy_tick {w w1 : World} {p : Nat} (h : ∃ σ, Mine w w1 p σ ∧ σ.now < 1125899906842624) :
    Calls Tryd.prog 16 #[.pointer (some ⟨p, 0, none⟩)] w1 fun e w' => ∃ v, e = .returned v ∧ ∃ σ, Mine w w' p σ := by
  obtain ⟨σ, ⟨h1, h2, h3, fv, wv, h4, h5⟩, hs⟩ := h
  refine (Tick_at h4 (by omega)).mono ?_
  rintro e w' ⟨rfl, hT⟩
  exact ⟨_, rfl, _, Mine.later h1 h3 h5 hT (tick_ok h2)⟩
theorem copy_next {w w1 : World} {p : Nat} (h : ∃ σ, Mine w w1 p σ) :
    Calls Tryd.prog 9 #[.pointer (some ⟨p, 0, none⟩)] w1 fun e w' => ∃ v, e = .returned v ∧ ∃ σ, Mine w w' p σ := by
  obtain ⟨σ, h1⟩ := h
  refine (mine_nexts h1).mono ?_
  rintro e w' ⟨rfl, hm, _⟩
  exact ⟨_, rfl, _, hm⟩
theorem copy_lose {w w1 : World} {p : Nat} (x : Int) (h : ∃ σ, Mine w w1 p σ) :
    Calls Tryd.prog 10 #[.pointer (some ⟨p, 0, none⟩), .int .i64 x] w1 fun e w' => ∃ v, e = .returned v ∧ Below w.heap.size w w' := by
  obtain ⟨σ, h1⟩ := h
  refine (mine_lose x h1).mono ?_
  rintro e w' ⟨rfl, hm, _⟩
  exact ⟨_, rfl, hm.1⟩
end Go.Proofs.YtbmlgnmilolamaaDoor
