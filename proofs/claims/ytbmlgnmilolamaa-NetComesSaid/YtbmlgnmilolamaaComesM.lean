/-
  A net and two maps of one's own: what each call makes of them. No statement is proved here.
-/
import Derived.Test.YtbmlgnmilolamaaComesP
namespace Go.Proofs.Ytbmlgnmilolamaa
open Go.RowKit
/-- Maps stay as they are. -/
def MKept (w w' : World) : Prop := ∀ (b : Nat) (es : Array MapEntry) (clock : Nat), w.heap[b]? = some (.map es clock) → w'.heap[b]? = some (.map es clock)
theorem MKept.of_below {w w' : World} (h : Below w.heap.size w w') : MKept w w' := fun i _ _ hi => (h.block i (Array.getElem?_eq_some_iff.1 hi).1).trans hi
theorem MKept.of_to {w w' : World} {p : Nat} {fv wv : Value} {σ σ' : NetS} (h : NetAt w p fv wv σ) (hT : NetTo w p fv wv σ' w') : MKept w w' := fun i es clock hi => by
  obtain ⟨_, _, k2, _⟩ := hT
  refine k2.heap hi (fun hf => ?_)
  rcases hf with rfl | hf
  · rw [h.hp] at hi; cases hi
  · obtain ⟨_, _, hc⟩ := ownsRow_type h.hw hf
    rw [hc] at hi; cases hi
theorem MapAt.mkept {w w' : World} {b n : Nat} {M : Pk → Option Int} (h : MapAt w b n M) (hk : MKept w w') : MapAt w' b n M := by
  obtain ⟨D, ⟨es, clock, hb, r⟩, h2⟩ := h
  exact ⟨D, ⟨es, clock, hk _ _ _ hb, r⟩, h2⟩
/-- The net, and the two maps. -/
structure Comes (w0 w : World) (p b1 b2 n : Nat) (σ : NetS) (W E : Pk → Option Int) : Prop where
  mine : Mine w0 w p σ
  m1 : MapAt w b1 n W
  m2 : MapAt w b2 n E
  ne : b1 ≠ b2
  f1 : w0.heap.size ≤ b1
  f2 : w0.heap.size ≤ b2
theorem Comes.below {w0 w w' : World} {p b1 b2 n : Nat} {σ : NetS} {W E : Pk → Option Int} (h : Comes w0 w p b1 b2 n σ W E) (hb : Below w.heap.size w w') : Comes w0 w' p b1 b2 n σ W E :=
  ⟨h.mine.below hb, h.m1.below hb, h.m2.below hb, h.ne, h.f1, h.f2⟩
theorem Comes.base {w0 w : World} {p b1 b2 n : Nat} {σ : NetS} {W E : Pk → Option Int} (h : Comes w0 w p b1 b2 n σ W E) : Below w0.heap.size w0 w := h.mine.1
theorem Comes.net {w0 w w' : World} {p b1 b2 n : Nat} {σ σ' : NetS} {W E : Pk → Option Int} (h : Comes w0 w p b1 b2 n σ W E) (m : Mine w0 w' p σ') (k : MKept w w') : Comes w0 w' p b1 b2 n σ' W E :=
  ⟨m, h.m1.mkept k, h.m2.mkept k, h.ne, h.f1, h.f2⟩
theorem map_not_net {w : World} {p b : Nat} {fv wv : Value} {σ : NetS} (h : NetAt w p fv wv σ) {es : Array MapEntry} {clock : Nat} (hb : w.heap[b]? = some (.map es clock)) : p ≠ b ∧ (∀ g, fv.ownBlock = some g → g ≠ b) ∧ ∀ g, wv.ownBlock = some g → g ≠ b := by
  refine ⟨fun e => ?_, fun g hg e => ?_, fun g hg e => ?_⟩
  · rw [← e, h.hp] at hb; cases hb
  · obtain ⟨_, _, hc⟩ := ownsRow_type h.hf hg
    rw [← e, hc] at hb; cases hb
  · obtain ⟨_, _, hc⟩ := ownsRow_type h.hw hg
    rw [← e, hc] at hb; cases hb
theorem Comes.mine_put {w0 w w' : World} {p b : Nat} {σ : NetS} (h : Mine w0 w p σ) {n : Nat} {M : Pk → Option Int} (hm : MapAt w b n M) (hb : w0.heap.size ≤ b) (ho : Only (fun k => k = b) w w') : Mine w0 w' p σ := by
  obtain ⟨h1, h2, h3, fv, wv, h4, h5⟩ := h
  obtain ⟨D, ⟨es, clock, hbb, _⟩, _⟩ := hm
  obtain ⟨k1, k2, k3⟩ := map_not_net h4 hbb
  exact ⟨h1.trans (ho.below h1.size (fun k hk => by rw [hk]; exact hb)), h2, h3, fv, wv, h4.keep ho k1 k2 k3, h5⟩
theorem Comes.put1 {w0 w : World} {p b1 b2 n : Nat} {σ : NetS} {W E : Pk → Option Int} (h : Comes w0 w p b1 b2 n σ W E) (q : Pk) (hq : PkFine q) (c : Int) (hc : -9223372036854775808 ≤ c ∧ c ≤ 9223372036854775807) (hn : n < 1152921504606846976) :
    ∃ w', (Instr.mapUpdate 40 (.map (some b1)) (pkV q) (.int .i64 c)).run Try.prog w = .ok () w' ∧ Comes w0 w' p b1 b2 (n + 1) σ (upd W q c) E ∧ Only (fun k => k = b1) w w' := by
  obtain ⟨w', hrun, hm, ho⟩ := h.m1.put q hq c hc hn
  exact ⟨w', hrun, ⟨Comes.mine_put h.mine h.m1 h.f1 ho, hm, (h.m2.keep ho h.ne.symm).mono (Nat.le_succ _), h.ne, h.f1, h.f2⟩, ho⟩
theorem Comes.put2 {w0 w : World} {p b1 b2 n : Nat} {σ : NetS} {W E : Pk → Option Int} (h : Comes w0 w p b1 b2 n σ W E) (q : Pk) (hq : PkFine q) (c : Int) (hc : -9223372036854775808 ≤ c ∧ c ≤ 9223372036854775807) (hn : n < 1152921504606846976) :
    ∃ w', (Instr.mapUpdate 40 (.map (some b2)) (pkV q) (.int .i64 c)).run Try.prog w = .ok () w' ∧ Comes w0 w' p b1 b2 (n + 1) σ W (upd E q c) ∧ Only (fun k => k = b2) w w' := by
  obtain ⟨w', hrun, hm, ho⟩ := h.m2.put q hq c hc hn
  exact ⟨w', hrun, ⟨Comes.mine_put h.mine h.m2 h.f2 ho, (h.m1.keep ho h.ne).mono (Nat.le_succ _), hm, h.ne, h.f1, h.f2⟩, ho⟩
/-- Rows of other types stay, too, where a map is written. -/
theorem row_put {w w' : World} {b g : Nat} (ho : Only (fun k => k = b) w w') {cs : Array Value} {T : TypeId} {fr : Nat × Nat} (hg : w.heap[g]? = some (.cells cs T fr)) {n : Nat} {M : Pk → Option Int} (hm : MapAt w b n M) : w'.heap[g]? = some (.cells cs T fr) := by
  obtain ⟨D, ⟨es, clock, hbb, _⟩, _⟩ := hm
  refine ho.heap hg (fun e => ?_)
  rw [e, hbb] at hg
  cases hg
theorem come_send {w0 w : World} {p b1 b2 n : Nat} {σ : NetS} {W E : Pk → Option Int} (x y : Int) (s : ByteArray) (hs : s.size ≤ 140737488355328) (sm : Small σ) (h : Comes w0 w p b1 b2 n σ W E) :
    Calls Try.prog 6 #[.pointer (some ⟨p, 0, none⟩), .int .i64 x, .int .i64 y, .string s] w fun e w' => Comes w0 w' p b1 b2 n (σ.send x y s).2 W E ∧ Kept w w' ∧ (((σ.send x y s).1 = 0 ∧ e = .returned .nilIface) ∨ ((σ.send x y s).1 ≠ 0 ∧ ∃ b, e = .returned (.iface 58 (.pointer (some ⟨b, 0, none⟩))))) := by
  have hh := h
  obtain ⟨⟨h1, h2, h3, fv, wv, h4, h5⟩, _⟩ := h
  refine (Send_at σ h2 sm.1 sm.2 x y s p fv wv w h4 hs).mono ?_
  rintro e w' ⟨hT, hE⟩
  have ok := send_ok h2 x y s
  refine ⟨hh.net (Mine.later h1 h3 h5 hT ok) (MKept.of_to h4 hT), Kept.of_to h4 hT, ?_⟩
  rcases hE with ⟨h0, rfl⟩ | ⟨h0, b, rfl, _⟩
  · exact .inl ⟨h0, rfl⟩
  · exact .inr ⟨h0, b, rfl⟩
theorem come_next {w0 w : World} {p b1 b2 n : Nat} {σ : NetS} {W E : Pk → Option Int} (h : Comes w0 w p b1 b2 n σ W E) :
    Calls Try.prog 7 #[.pointer (some ⟨p, 0, none⟩)] w fun e w' => e = .returned (.tuple #[nextV σ.next.1, .bool σ.next.1.isSome]) ∧ Comes w0 w' p b1 b2 n σ.next.2 W E ∧ Kept w w' := by
  have hh := h
  obtain ⟨⟨h1, h2, h3, fv, wv, h4, h5⟩, _⟩ := h
  refine (Next_at σ h2 p fv wv w h4).mono ?_
  rintro e w' ⟨hT, rfl⟩
  exact ⟨rfl, hh.net (Mine.later h1 h3 h5 hT (next_ok h2)) (MKept.of_to h4 hT), Kept.of_to h4 hT⟩
theorem come_tick {w0 w : World} {p b1 b2 n : Nat} {σ : NetS} {W E : Pk → Option Int} (hs : σ.now < 1125899906842624) (h : Comes w0 w p b1 b2 n σ W E) :
    Calls Try.prog 8 #[.pointer (some ⟨p, 0, none⟩)] w fun e w' => e = .returned (.int .i64 (σ.now + 1 : Nat)) ∧ Comes w0 w' p b1 b2 n σ.tick W E ∧ Kept w w' := by
  have hh := h
  obtain ⟨⟨h1, h2, h3, fv, wv, h4, h5⟩, _⟩ := h
  refine (Tick_at h4 (by omega)).mono ?_
  rintro e w' ⟨rfl, hT⟩
  exact ⟨rfl, hh.net (Mine.later h1 h3 h5 hT (tick_ok h2)) (MKept.of_to h4 hT), Kept.of_to h4 hT⟩
theorem come_time {w0 w : World} {p b1 b2 n : Nat} {σ : NetS} {W E : Pk → Option Int} (h : Comes w0 w p b1 b2 n σ W E) :
    Calls Try.prog 11 #[.pointer (some ⟨p, 0, none⟩)] w fun e w' => e = .returned (.int .i64 σ.now) ∧ w = w' := by
  obtain ⟨⟨_, _, _, fv, wv, h4, _⟩, _⟩ := h
  exact Time_at h4
theorem come_sent {w0 w : World} {p b1 b2 n : Nat} {σ : NetS} {W E : Pk → Option Int} (h : Comes w0 w p b1 b2 n σ W E) :
    Calls Try.prog 10 #[.pointer (some ⟨p, 0, none⟩)] w fun e w' => e = .returned (.int .i64 σ.sent) ∧ w = w' := by
  obtain ⟨⟨_, _, _, fv, wv, h4, _⟩, _⟩ := h
  exact Sent_at h4
/-- How many are under way, read off the memory. -/
def wayN : Option Value → Nat
  | some (.slice _ n _) => n
  | _ => 0
theorem way_len {w0 w : World} {p : Nat} {σ : NetS} (h : Mine w0 w p σ) : wayN (w.cell? ⟨p, 4, none⟩) = σ.way.length := by
  obtain ⟨_, _, _, fv, wv, h4, _⟩ := h
  obtain ⟨a, c, rfl, _⟩ := way_view h4.hw
  rw [h4.cell 4]
  rfl
end Go.Proofs.Ytbmlgnmilolamaa
