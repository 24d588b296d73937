/-
  The program's net and the document's: the plain law. No statement is proved here.
-/
import Derived.Test.YtbmlgnmilolamaaDoorRefF
namespace Go.Proofs.YtbmlgnmilolamaaDoor
open Go.RowKit
def NetS.lays (ρ : NetS) (f : Fa) (p : Pk) : Nat → List Un
  | 0 => ρ.way
  | k + 1 => ρ.lays f p k ++ [(ρ.now + f.2.2 + k, ρ.sent, p)]
def NetS.rsend (σ : NetS) (a b : Int) (s : ByteArray) : Nat × NetS :=
  if ¬ (σ.isEnd a ∧ σ.isEnd b) then (2, σ)
  else if 1048576 < s.size then (4, σ)
  else if σ.fate.1 = true then (0, { σ with sent := σ.sent + 1 })
  else if 4096 < σ.way.length + σ.fate.2.1 + 1 then (4, σ)
  else (0, { σ with sent := σ.sent + 1, way := σ.lays σ.fate (a, b, s) (σ.fate.2.1 + 1) })
theorem lays_len (ρ : NetS) (f : Fa) (p : Pk) : ∀ k, (ρ.lays f p k).length = ρ.way.length + k
  | 0 => rfl
  | k + 1 => by rw [NetS.lays, List.length_append, lays_len ρ f p k]; simp; omega
/-- The two nets say the same; what is under way lies in another order. -/
structure Twin (σ ρ : NetS) : Prop where
  ends : ρ.ends = σ.ends
  now : ρ.now = σ.now
  sent : ρ.sent = σ.sent
  fates : ρ.fates = σ.fates
  way : ρ.way.Perm σ.way
theorem Twin.fate {σ ρ : NetS} (h : Twin σ ρ) : ρ.fate = σ.fate := by rw [NetS.fate, NetS.fate, h.fates, h.sent]
theorem Twin.lays {σ ρ : NetS} (h : Twin σ ρ) (f : Fa) (p : Pk) : ∀ k, (ρ.lays f p k).Perm (σ.lay f p k)
  | 0 => h.way
  | k + 1 => by
    rw [NetS.lays, NetS.lay, h.now, h.sent]
    refine List.Perm.trans ?_ (perm_ins _ _).symm
    exact (List.perm_append_comm (l₁ := ρ.lays f p k) (l₂ := [(σ.now + f.2.2 + k, σ.sent, p)])).trans ((h.lays f p k).cons _)
theorem Twin.send {σ ρ : NetS} (h : Twin σ ρ) (a b : Int) (s : ByteArray) : (ρ.rsend a b s).1 = (σ.send a b s).1 ∧ Twin (σ.send a b s).2 (ρ.rsend a b s).2 := by
  have he : ∀ k, ρ.isEnd k ↔ σ.isEnd k := fun k => by unfold NetS.isEnd; rw [h.ends]
  rw [NetS.rsend, NetS.send, h.fate, h.way.length_eq]
  simp only [he]
  split
  · exact ⟨rfl, h⟩
  · split
    · exact ⟨rfl, h⟩
    · split
      · exact ⟨rfl, h.ends, h.now, by show ρ.sent + 1 = σ.sent + 1; rw [h.sent], h.fates, h.way⟩
      · split
        · exact ⟨rfl, h⟩
        · exact ⟨rfl, h.ends, h.now, by show ρ.sent + 1 = σ.sent + 1; rw [h.sent], h.fates, h.lays _ _ _⟩
theorem Twin.next {σ ρ : NetS} (h : Twin σ ρ) (hs : Sorted σ.way) {r : Option Pk × NetS} (hr : RNextOf ρ r) : r.1 = σ.next.1 ∧ Twin σ.next.2 r.2 := by
  rcases hr with ⟨h0, rfl⟩ | ⟨k, x, hk, hx, rfl⟩
  · have hw : σ.way = [] := by
      have := h.way
      rw [h0] at this
      exact this.nil_eq.symm
    rw [NetS.next, hw]
    exact ⟨rfl, h⟩
  · obtain ⟨h1, h2⟩ := first_head hs (j := 0) (by rw [List.drop_zero]; exact h.way) hk hx
    obtain ⟨y, r, hyr⟩ : ∃ y r, σ.way = y :: r := by
      cases hc : σ.way with
      | nil => rw [hc] at h1; cases h1
      | cons y r => exact ⟨y, r, rfl⟩
    have hxy : y = x := by rw [hyr] at h1; injection h1
    subst hxy
    rw [hyr] at h2
    rw [NetS.next, hyr, h.now]
    simp only
    split
    · exact ⟨rfl, h⟩
    · exact ⟨rfl, h.ends, rfl, h.sent, h.fates, h2⟩
theorem Twin.tick {σ ρ : NetS} (h : Twin σ ρ) : Twin σ.tick ρ.tick := ⟨h.ends, by show ρ.now + 1 = σ.now + 1; rw [h.now], h.sent, h.fates, h.way⟩
theorem Twin.lose {σ ρ : NetS} (h : Twin σ ρ) (e : Int) : Twin (σ.lose e) (ρ.lose e) ∧ ρ.way.length - (ρ.lose e).way.length = σ.way.length - (σ.lose e).way.length := by
  have hp : (ρ.lose e).way.Perm (σ.lose e).way := h.way.filter _
  exact ⟨⟨h.ends, h.now, h.sent, h.fates, hp⟩, by rw [h.way.length_eq, hp.length_eq]⟩
end Go.Proofs.YtbmlgnmilolamaaDoor
