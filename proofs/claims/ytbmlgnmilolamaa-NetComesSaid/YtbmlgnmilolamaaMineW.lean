/-
  A net of one's own: what the calls say of it, from a world on. No statement is proved here.
-/
import Derived.Test.YtbmlgnmilolamaaFlyW
import Derived.Test.YtbmlgnmilolamaaNewW
namespace Go.Proofs.Ytbmlgnmilolamaa
open Go.RowKit
/-- All of w0 lies unturned in w; the net lies behind w0. -/
def Mine (w0 w : World) (p : Nat) (σ : NetS) : Prop :=
  Below w0.heap.size w0 w ∧ NetOK σ ∧ w0.heap.size ≤ p ∧ ∃ fv wv, NetAt w p fv wv σ ∧ (∀ g, wv.ownBlock = some g → w0.heap.size ≤ g)
theorem Mine.below {w0 w w' : World} {p : Nat} {σ : NetS} (h : Mine w0 w p σ) (hb : Below w.heap.size w w') : Mine w0 w' p σ := by
  obtain ⟨h1, h2, h3, fv, wv, h4, h5⟩ := h
  exact ⟨h1.trans (hb.mono h1.size), h2, h3, fv, wv, h4.below hb, h5⟩
theorem Mine.later {w0 w w' : World} {p : Nat} {σ' : NetS} {fv wv : Value} (h1 : Below w0.heap.size w0 w) (h3 : w0.heap.size ≤ p) (h5 : ∀ g, wv.ownBlock = some g → w0.heap.size ≤ g) (hT : NetTo w p fv wv σ' w') (ok : NetOK σ') : Mine w0 w' p σ' := by
  obtain ⟨wv', k1, k2, k3⟩ := hT
  refine ⟨h1.trans (k2.below h1.size (fun k hk => ?_)), ok, h3, fv, wv', k1, fun g hg => ?_⟩
  · rcases hk with rfl | hk
    · exact h3
    · exact h5 k hk
  · rcases k3 with k3 | k3
    · exact h5 g (k3.symm.trans hg)
    · exact Nat.le_trans h1.size (k3 g hg)
/-- Blocks of other types are as they were. -/
def Kept (w w' : World) : Prop := ∀ (b : Nat) (cs : Array Value) (T : TypeId) (fr : Nat × Nat), w.heap[b]? = some (.cells cs T fr) → T ≠ 53 → T ≠ 57 → w'.heap[b]? = some (.cells cs T fr)
theorem Kept.trans {a b c : World} (h : Kept a b) (k : Kept b c) : Kept a c := fun i cs T fr hi h1 h2 => k i cs T fr (h i cs T fr hi h1 h2) h1 h2
theorem Kept.of_below {w w' : World} (h : Below w.heap.size w w') : Kept w w' := fun i _ _ _ hi _ _ => (h.block i (Array.getElem?_eq_some_iff.1 hi).1).trans hi
theorem Kept.of_to {w w' : World} {p : Nat} {fv wv : Value} {σ σ' : NetS} (h : NetAt w p fv wv σ) (hT : NetTo w p fv wv σ' w') : Kept w w' := fun i cs T fr hi h1 h2 => by
  obtain ⟨_, _, k2, _⟩ := hT
  refine k2.heap hi (fun hf => ?_)
  rcases hf with rfl | hf
  · exact heap_ne hi h.hp h1 rfl
  · obtain ⟨_, _, hc⟩ := ownsRow_type h.hw hf
    exact heap_ne hi hc h2 rfl
def Small (σ : NetS) : Prop := σ.now < 1125899906842624 ∧ σ.sent < 1125899906842624
/-- A call that gives these, and a net that stands so. -/
def MineIs (v : Value) (w0 w : World) (p : Nat) (σ : NetS) (e : Ending) (w' : World) : Prop := e = .returned v ∧ Mine w0 w' p σ ∧ Kept w w'
theorem mine_send {w0 w : World} {p : Nat} {σ σ' : NetS} (x y : Int) (s : ByteArray) (hs : s.size ≤ 140737488355328) (hr : σ.send x y s = (0, σ')) (sm : Small σ) (h : Mine w0 w p σ) :
    Calls Try.prog 6 #[.pointer (some ⟨p, 0, none⟩), .int .i64 x, .int .i64 y, .string s] w (MineIs .nilIface w0 w p σ') := by
  obtain ⟨h1, h2, h3, fv, wv, h4, h5⟩ := h
  refine (Send_at σ h2 sm.1 sm.2 x y s p fv wv w h4 hs).mono ?_
  rintro e w' ⟨hT, hE⟩
  have ok := send_ok h2 x y s
  rw [hr] at hT hE ok
  rcases hE with ⟨_, rfl⟩ | ⟨h0, _⟩
  · exact ⟨rfl, Mine.later h1 h3 h5 hT ok, Kept.of_to h4 hT⟩
  · exact absurd rfl h0
/-- A call that is refused. -/
def MineNo (c : Nat) (w0 w : World) (p : Nat) (σ : NetS) (e : Ending) (w' : World) : Prop := Mine w0 w' p σ ∧ Kept w w' ∧ ∃ b, e = .returned (.iface 58 (.pointer (some ⟨b, 0, none⟩))) ∧ FltAt w' b c (-1)
theorem mine_send_no {w0 w : World} {p : Nat} {σ σ' : NetS} (x y : Int) (s : ByteArray) (hs : s.size ≤ 140737488355328) (c : Nat) (hc : c ≠ 0) (hr : σ.send x y s = (c, σ')) (sm : Small σ) (h : Mine w0 w p σ) :
    Calls Try.prog 6 #[.pointer (some ⟨p, 0, none⟩), .int .i64 x, .int .i64 y, .string s] w (MineNo c w0 w p σ') := by
  obtain ⟨h1, h2, h3, fv, wv, h4, h5⟩ := h
  refine (Send_at σ h2 sm.1 sm.2 x y s p fv wv w h4 hs).mono ?_
  rintro e w' ⟨hT, hE⟩
  have ok := send_ok h2 x y s
  rw [hr] at hT hE ok
  rcases hE with ⟨h0, rfl⟩ | ⟨_, b, rfl, hF⟩
  · exact absurd h0 hc
  · exact ⟨Mine.later h1 h3 h5 hT ok, Kept.of_to h4 hT, b, rfl, hF⟩
theorem mine_next {w0 w : World} {p : Nat} {σ σ' : NetS} {o : Option Pk} (hr : σ.next = (o, σ')) (h : Mine w0 w p σ) :
    Calls Try.prog 7 #[.pointer (some ⟨p, 0, none⟩)] w (MineIs (.tuple #[nextV o, .bool o.isSome]) w0 w p σ') := by
  obtain ⟨h1, h2, h3, fv, wv, h4, h5⟩ := h
  refine (Next_at σ h2 p fv wv w h4).mono ?_
  rintro e w' ⟨hT, rfl⟩
  have ok := next_ok h2
  rw [hr] at hT ok ⊢
  exact ⟨rfl, Mine.later h1 h3 h5 hT ok, Kept.of_to h4 hT⟩
theorem mine_tick {w0 w : World} {p : Nat} {σ : NetS} (sm : Small σ) (h : Mine w0 w p σ) :
    Calls Try.prog 8 #[.pointer (some ⟨p, 0, none⟩)] w (MineIs (.int .i64 (σ.now + 1 : Nat)) w0 w p σ.tick) := by
  obtain ⟨h1, h2, h3, fv, wv, h4, h5⟩ := h
  refine (Tick_at h4 (by have := sm.1; omega)).mono ?_
  rintro e w' ⟨rfl, hT⟩
  exact ⟨rfl, Mine.later h1 h3 h5 hT (tick_ok h2), Kept.of_to h4 hT⟩
theorem mine_fly {w0 w : World} {p : Nat} {σ : NetS} (h : Mine w0 w p σ) :
    Calls Try.prog 12 #[.pointer (some ⟨p, 0, none⟩)] w fun e w' => ∃ a c, e = .returned (.slice a σ.way.length c) ∧ Mine w0 w' p σ ∧ Kept w w' := by
  have hm := h
  obtain ⟨h1, h2, h3, fv, wv, h4, h5⟩ := h
  refine (Flying_at σ h2.len p fv wv w h4).mono ?_
  rintro e w' ⟨a, c, rfl, _, hb⟩
  exact ⟨a, c, by rw [List.length_map], hm.below hb, Kept.of_below hb⟩
theorem fresh_ok (k : Nat) (fs : List FaI) (h : ∀ f ∈ fs, faOk f) : NetOK ⟨k, 0, 0, fs.map faN, []⟩ := by
  refine ⟨List.Pairwise.nil, (fun x hx => by cases hx), Nat.zero_le _, fun f hf => ?_, (fun x hx => by cases hx)⟩
  obtain ⟨g, hg, rfl⟩ := List.mem_map.1 hf
  obtain ⟨⟨h1, h2⟩, h3, h4⟩ := h g hg
  simp only [faN]
  omega
theorem mine_new {w0 w : World} (k : Int) (a : Option Addr) (len cap : Nat) (fs : List FaI) (hb0 : Below w0.heap.size w0 w) (h : FaRow w a len fs) (hl : len ≤ 1000) (hk : 1 ≤ k ∧ k ≤ 64) (hf : ∀ f ∈ fs, faOk f) :
    Calls Try.prog 5 #[.int .i64 k, .slice a len cap] w fun e w' => ∃ p, e = .returned (.tuple #[.pointer (some ⟨p, 0, none⟩), .nilIface]) ∧ Mine w0 w' p ⟨k.toNat, 0, 0, fs.map faN, []⟩ := by
  refine (New_at k a len cap fs w h hl).mono ?_
  rintro e w' ⟨hb, hE⟩
  rcases hE with ⟨_, _, _, _, p, fv, rfl, hp, hN, _⟩ | ⟨at_, b, hbad, _⟩
  · exact ⟨p, rfl, hb0.trans (hb.mono hb0.size), fresh_ok _ _ hf, Nat.le_trans hb0.size hp, fv, _, hN, fun g hg => by cases hg⟩
  · rw [newBad, if_neg (by omega), findIdx_none hf] at hbad
    cases hbad
end Go.Proofs.Ytbmlgnmilolamaa
