/-
  What comes of a net, counted: the plain law. No statement is proved here.
-/
import Derived.Test.YtbmlgnmilolamaaMapW
import Derived.Test.YtbmlgnmilolamaaLivesW
namespace Go.Proofs.Ytbmlgnmilolamaa
open Go.RowKit
/-- How often a packet is under way. -/
def cnt (p : Pk) (l : List Un) : Nat := l.countP (fun x => decide (x.2.2 = p))
theorem cnt_cons (p : Pk) (x : Un) (l : List Un) : cnt p (x :: l) = cnt p l + (if x.2.2 = p then 1 else 0) := by
  rw [cnt, List.countP_cons, cnt]
  by_cases h : x.2.2 = p <;> simp [h]
theorem cnt_ins (p : Pk) (x : Un) (l : List Un) : cnt p (ins x l) = cnt p l + (if x.2.2 = p then 1 else 0) := by
  rw [← cnt_cons]
  exact (perm_ins x l).countP_eq _
theorem cnt_lay (σ : NetS) (f : Fa) (q p : Pk) : ∀ k, cnt p (σ.lay f q k) = cnt p σ.way + (if q = p then k else 0)
  | 0 => by rw [NetS.lay]; split <;> rfl
  | k + 1 => by
    rw [NetS.lay, cnt_ins, cnt_lay σ f q p k]
    by_cases h : q = p <;> simp [h]
    omega
theorem mem_lay {σ : NetS} {f : Fa} {q : Pk} {y : Un} : ∀ {k : Nat}, y ∈ σ.lay f q k → y ∈ σ.way ∨ (y.2.2 = q ∧ σ.now + f.2.2 ≤ y.1)
  | 0, h => .inl h
  | k + 1, h => by
    rw [NetS.lay] at h
    rcases mem_ins.1 h with rfl | h
    · exact .inr ⟨rfl, Nat.le_add_right _ _⟩
    · exact mem_lay h
theorem cnt_le (p : Pk) (l : List Un) : cnt p l ≤ l.length := List.countP_le_length
/-- The two maps say what is under way. -/
structure Tally (σ : NetS) (W E : Pk → Option Int) : Prop where
  want : ∀ p, (W p).getD 0 = cnt p σ.way
  fine : ∀ x ∈ σ.way, PkFine x.2.2 ∧ ∃ e, E x.2.2 = some e ∧ e ≤ x.1
  early : ∀ p e, E p = some e → 0 ≤ e ∧ e ≤ 1000000
theorem Tally.start (σ : NetS) (h : σ.way = []) : Tally σ (fun _ => none) (fun _ => none) :=
  ⟨fun p => by rw [h]; rfl, (fun x hx => by rw [h] at hx; cases hx), (fun _ _ h => by cases h)⟩
theorem Tally.same {σ σ' : NetS} {W E : Pk → Option Int} (h : Tally σ W E) (hw : σ'.way = σ.way) : Tally σ' W E :=
  ⟨fun p => by rw [hw]; exact h.want p, fun x hx => h.fine x (by rw [← hw]; exact hx), h.early⟩
theorem send_zero {σ : NetS} {x y : Int} {s : ByteArray} (h : (σ.send x y s).1 = 0) :
    σ.isEnd x ∧ σ.isEnd y ∧ s.size ≤ 1048576 ∧ ((σ.fate.1 = true ∧ (σ.send x y s).2 = { σ with sent := σ.sent + 1 }) ∨ (σ.fate.1 = false ∧ (σ.send x y s).2 = { σ with sent := σ.sent + 1, way := σ.lay σ.fate (x, y, s) (σ.fate.2.1 + 1) })) := by
  by_cases h1 : σ.isEnd x ∧ σ.isEnd y
  · by_cases h2 : 1048576 < s.size
    · rw [NetS.send, if_neg (by simp [h1]), if_pos h2] at h
      cases h
    · have hs : σ.send x y s = if σ.fate.1 = true then (0, { σ with sent := σ.sent + 1 }) else if 4096 < σ.way.length + σ.fate.2.1 + 1 then (4, σ) else (0, { σ with sent := σ.sent + 1, way := σ.lay σ.fate (x, y, s) (σ.fate.2.1 + 1) }) := by
        rw [NetS.send, if_neg (by simp [h1]), if_neg h2]
      by_cases h3 : σ.fate.1 = true
      · exact ⟨h1.1, h1.2, by omega, .inl ⟨h3, by rw [hs, if_pos h3]⟩⟩
      · by_cases h4 : 4096 < σ.way.length + σ.fate.2.1 + 1
        · rw [hs, if_neg h3, if_pos h4] at h
          cases h
        · exact ⟨h1.1, h1.2, by omega, .inr ⟨by simp [h3], by rw [hs, if_neg h3, if_neg h4]⟩⟩
  · rw [NetS.send, if_pos h1] at h
    cases h
theorem send_not {σ : NetS} {x y : Int} {s : ByteArray} (h : (σ.send x y s).1 ≠ 0) : (σ.send x y s).2 = σ := by
  unfold NetS.send at h ⊢
  repeat' split
  all_goals first | rfl | (simp_all; done)
theorem Tally.send {σ : NetS} {W E E' : Pk → Option Int} (t : Tally σ W E) (he : σ.ends ≤ 64) {x y : Int} {s : ByteArray} (h : (σ.send x y s).1 = 0) (hd : σ.fate.1 = false)
    (h1 : ∃ e, E' (x, y, s) = some e ∧ e ≤ (σ.now : Int) + σ.fate.2.2) (h2 : ∀ q e, E q = some e → ∃ e', E' q = some e' ∧ e' ≤ e) (h3 : ∀ p e, E' p = some e → 0 ≤ e ∧ e ≤ 1000000) :
    Tally (σ.send x y s).2 (upd W (x, y, s) ((W (x, y, s)).getD 0 + σ.fate.2.1 + 1)) E' := by
  obtain ⟨i1, i2, i3, ⟨i4, _⟩ | ⟨_, i4⟩⟩ := send_zero h
  · rw [hd] at i4; cases i4
  rw [i4]
  have hx : x < 64 := by have := i1.2; omega
  have hy : y < 64 := by have := i2.2; omega
  have hfine : PkFine (x, y, s) := ⟨⟨i1.1, hx⟩, ⟨i2.1, hy⟩, i3⟩
  refine ⟨fun p => ?_, fun z hz => ?_, h3⟩
  · show (upd W (x, y, s) _ p).getD 0 = (cnt p (σ.lay σ.fate (x, y, s) (σ.fate.2.1 + 1)) : Int)
    rw [cnt_lay]
    by_cases hp : p = (x, y, s)
    · subst hp
      simp only [upd, if_true, Option.getD_some]
      rw [t.want]
      omega
    · rw [if_neg (fun e => hp e.symm)]
      simp only [upd, hp, if_false]
      rw [t.want]
      rfl
  · rcases mem_lay hz with hz | ⟨hz, hle⟩
    · obtain ⟨f1, e, f2, f3⟩ := t.fine z hz
      obtain ⟨e', g1, g2⟩ := h2 _ e f2
      exact ⟨f1, e', g1, by omega⟩
    · rw [hz]
      obtain ⟨e, g1, g2⟩ := h1
      exact ⟨hfine, e, g1, by omega⟩
theorem Tally.next {σ : NetS} {W E : Pk → Option Int} (t : Tally σ W E) {q : Pk} (h : σ.next.1 = some q) :
    PkFine q ∧ 1 ≤ (W q).getD 0 ∧ (W q).getD 0 ≤ σ.way.length ∧ (∃ e, E q = some e ∧ e ≤ σ.now) ∧ Tally σ.next.2 (upd W q ((W q).getD 0 - 1)) E ∧ σ.next.2.way.length < σ.way.length ∧ ∀ x ∈ σ.next.2.way, x ∈ σ.way := by
  unfold NetS.next at h ⊢
  split at h
  · cases h
  · rename_i x r hw
    split at h
    · cases h
    · rename_i hle
      injection h with h
      subst h
      simp only [hw, hle, if_false]
      obtain ⟨f1, e, f2, f3⟩ := t.fine x (by rw [hw]; exact List.mem_cons_self ..)
      have h0 := t.want x.2.2
      rw [hw, cnt_cons, if_pos rfl] at h0
      have hc := cnt_le x.2.2 r
      refine ⟨f1, by omega, by rw [List.length_cons]; omega, ⟨e, f2, by omega⟩, ⟨fun p => ?_, fun z hz => t.fine z (by rw [hw]; exact List.mem_cons_of_mem _ hz), t.early⟩, by rw [List.length_cons]; exact Nat.lt_succ_self _, fun z hz => List.mem_cons_of_mem _ hz⟩
      by_cases hp : p = x.2.2
      · subst hp
        simp only [upd, if_true, Option.getD_some]
        omega
      · simp only [upd, hp, if_false]
        have h1 := t.want p
        rw [hw, cnt_cons, if_neg (fun e => hp e.symm)] at h1
        rw [h1]
        rfl
/-- Nothing is due. -/
theorem next_none {σ : NetS} (ok : NetOK σ) (h : σ.next.1 = none) : ∀ x ∈ σ.way, σ.now < x.1 := by
  unfold NetS.next at h
  split at h
  · rename_i hw
    intro x hx
    rw [hw] at hx
    cases hx
  · rename_i x r hw
    split at h
    · rename_i hlt
      intro z hz
      have hs := ok.sorted
      rw [hw] at hz hs
      rcases List.mem_cons.1 hz with rfl | hz
      · exact hlt
      · have h2 := List.rel_of_pairwise_cons hs hz
        rw [ahead_iff] at h2
        omega
    · cases h
theorem next_none_same {σ : NetS} (h : σ.next.1 = none) : σ.next.2 = σ := by
  unfold NetS.next at h ⊢
  split at h
  · rfl
  · split at h
    · rename_i hlt
      simp [hlt]
    · cases h
theorem next_keeps (σ : NetS) : σ.next.2.now = σ.now ∧ σ.next.2.fates = σ.fates ∧ σ.next.2.sent = σ.sent ∧ σ.next.2.ends = σ.ends := by
  unfold NetS.next
  repeat' split
  all_goals exact ⟨rfl, rfl, rfl, rfl⟩
theorem send_keeps (σ : NetS) (x y : Int) (s : ByteArray) : (σ.send x y s).2.now = σ.now ∧ (σ.send x y s).2.fates = σ.fates ∧ (σ.send x y s).2.sent ≤ σ.sent + 1 ∧ (σ.send x y s).2.ends = σ.ends := by
  unfold NetS.send
  repeat' split
  all_goals exact ⟨rfl, rfl, by first | exact Nat.le_succ _ | exact Nat.le_refl _, rfl⟩
theorem fate_in {σ : NetS} {fs : List FaI} (hf : σ.fates = fs.map faN) (hok : ∀ f ∈ fs, faOk f) (hlt : σ.sent < fs.length) : fs[σ.sent]? = some (σ.fate.1, (σ.fate.2.1 : Int), (σ.fate.2.2 : Int)) := by
  have h1 : fs[σ.sent]? = some fs[σ.sent] := List.getElem?_eq_getElem hlt
  have h2 : σ.fate = faN fs[σ.sent] := by
    rw [NetS.fate, hf, List.getD_eq_getElem?_getD, List.getElem?_map, h1]
    rfl
  obtain ⟨⟨k1, _⟩, k2, _⟩ := hok _ (List.getElem_mem hlt)
  rw [h1, h2]
  simp only [faN, Int.toNat_of_nonneg k1, Int.toNat_of_nonneg k2]
theorem fate_out {σ : NetS} {fs : List FaI} (hf : σ.fates = fs.map faN) (hge : fs.length ≤ σ.sent) : σ.fate = (false, 0, 0) := by
  rw [NetS.fate, hf, List.getD_eq_getElem?_getD, List.getElem?_eq_none (by rw [List.length_map]; exact hge)]
  rfl
end Go.Proofs.Ytbmlgnmilolamaa
