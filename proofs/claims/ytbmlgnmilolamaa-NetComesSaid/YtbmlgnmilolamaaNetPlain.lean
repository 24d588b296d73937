/-
  A net in plain lists. No statement is proved here.
-/
import Derived.Test.YtbmlgnmilolamaaKit
namespace Go.Proofs.Ytbmlgnmilolamaa
open Go.RowKit
/-- From, to, bytes. -/
abbrev Pk := Int × Int × ByteArray
/-- When it comes, which one it was, the packet. -/
abbrev Un := Nat × Nat × Pk
/-- Dropped, how often again, how long it waits. -/
abbrev Fa := Bool × Nat × Nat
def ahead (a b : Un) : Bool := decide (a.1 < b.1 ∨ (a.1 = b.1 ∧ b.2.1 < a.2.1))
def Sorted (l : List Un) : Prop := l.Pairwise (fun a b => ahead a b = true)
def ins (x : Un) (l : List Un) : List Un := l.takeWhile (fun y => ahead y x) ++ x :: l.dropWhile (fun y => ahead y x)
structure NetS where
  ends : Nat
  now : Nat
  sent : Nat
  fates : List Fa
  way : List Un
def NetS.lay (σ : NetS) (f : Fa) (p : Pk) : Nat → List Un
  | 0 => σ.way
  | k + 1 => ins (σ.now + f.2.2 + k, σ.sent, p) (σ.lay f p k)
def NetS.fate (σ : NetS) : Fa := σ.fates.getD σ.sent (false, 0, 0)
def NetS.isEnd (σ : NetS) (a : Int) : Prop := 0 ≤ a ∧ a < σ.ends
instance (σ : NetS) (a : Int) : Decidable (σ.isEnd a) := inferInstanceAs (Decidable (_ ∧ _))
def NetS.send (σ : NetS) (a b : Int) (s : ByteArray) : Nat × NetS :=
  if ¬ (σ.isEnd a ∧ σ.isEnd b) then (2, σ)
  else if 1048576 < s.size then (4, σ)
  else if σ.fate.1 = true then (0, { σ with sent := σ.sent + 1 })
  else if 4096 < σ.way.length + σ.fate.2.1 + 1 then (4, σ)
  else (0, { σ with sent := σ.sent + 1, way := σ.lay σ.fate (a, b, s) (σ.fate.2.1 + 1) })
def NetS.next (σ : NetS) : Option Pk × NetS :=
  match σ.way with
  | [] => (none, σ)
  | x :: r => if σ.now < x.1 then (none, σ) else (some x.2.2, { σ with way := r })
def NetS.tick (σ : NetS) : NetS := { σ with now := σ.now + 1 }
def NetS.lose (σ : NetS) (e : Int) : NetS := { σ with way := σ.way.filter (fun x => decide (x.2.2.2.1 ≠ e)) }
/-- What every call keeps. -/
structure NetOK (σ : NetS) : Prop where
  sorted : Sorted σ.way
  old : ∀ x ∈ σ.way, x.2.1 < σ.sent
  len : σ.way.length ≤ 4096
  fates : ∀ f ∈ σ.fates, f.2.1 ≤ 3 ∧ f.2.2 ≤ 100
  soon : ∀ x ∈ σ.way, x.1 ≤ σ.now + 103
theorem ahead_iff (a b : Un) : ahead a b = true ↔ (a.1 < b.1 ∨ (a.1 = b.1 ∧ b.2.1 < a.2.1)) := by simp [ahead]
theorem ahead_trans {a b c : Un} (h1 : ahead a b = true) (h2 : ahead b c = true) : ahead a c = true := by
  rw [ahead_iff] at *
  omega
theorem ahead_irr (a : Un) : ahead a a = false := by
  cases h : ahead a a with
  | false => rfl
  | true => rw [ahead_iff] at h; omega
theorem ahead_total {a b : Un} (h : ahead a b = false) (hne : ¬ (a.1 = b.1 ∧ a.2.1 = b.2.1)) : ahead b a = true := by
  have h' : ¬ (ahead a b = true) := by rw [h]; decide
  rw [ahead_iff] at *
  omega
theorem ahead_asymm {a b : Un} (h : ahead a b = true) : ahead b a = false := by
  cases h2 : ahead b a with
  | false => rfl
  | true => have := ahead_trans h h2; rw [ahead_irr] at this; cases this
theorem length_ins (x : Un) (l : List Un) : (ins x l).length = l.length + 1 := by
  rw [ins, List.length_append, List.length_cons]
  have := congrArg List.length (List.takeWhile_append_dropWhile (p := fun y => ahead y x) (l := l))
  rw [List.length_append] at this
  omega
theorem perm_ins (x : Un) (l : List Un) : (ins x l).Perm (x :: l) := by
  rw [ins]
  refine List.perm_middle.trans ?_
  rw [List.takeWhile_append_dropWhile]
theorem mem_ins {x y : Un} {l : List Un} : y ∈ ins x l ↔ y = x ∨ y ∈ l := by
  rw [(perm_ins x l).mem_iff, List.mem_cons]
theorem sorted_drop {x : Un} : ∀ {l : List Un}, Sorted l → ∀ y ∈ l.dropWhile (fun y => ahead y x), ahead y x = false
  | [], _, _, hy => by simp at hy
  | a :: l, hs, y, hy => by
    unfold Sorted at hs
    rw [List.pairwise_cons] at hs
    rw [List.dropWhile_cons] at hy
    split at hy
    · exact sorted_drop hs.2 y hy
    · next h =>
      have ha : ahead a x = false := by simpa using h
      rcases List.mem_cons.1 hy with rfl | hm
      · exact ha
      · cases h2 : ahead y x with
        | false => rfl
        | true => rw [ahead_trans (hs.1 y hm) h2] at ha; cases ha
theorem sorted_ins {x : Un} {l : List Un} (hs : Sorted l) (hne : ∀ y ∈ l, ¬ (y.1 = x.1 ∧ y.2.1 = x.2.1)) : Sorted (ins x l) := by
  have hd := sorted_drop (x := x) hs
  unfold Sorted at hs ⊢
  have hs2 := hs
  rw [← List.takeWhile_append_dropWhile (p := fun y => ahead y x) (l := l), List.pairwise_append] at hs2
  obtain ⟨h1, h2, h3⟩ := hs2
  rw [ins, List.pairwise_append]
  refine ⟨h1, ?_, ?_⟩
  · rw [List.pairwise_cons]
    exact ⟨fun y hy => ahead_total (hd y hy) (hne y ((List.dropWhile_sublist _).subset hy)), h2⟩
  · intro a ha b hb
    have hax : ahead a x = true := by
      exact List.all_eq_true.1 (List.all_takeWhile (p := fun y => ahead y x) (l := l)) a ha
    rcases List.mem_cons.1 hb with rfl | hb
    · exact hax
    · exact h3 a ha b hb
/-- Where the search ends is where it is put. -/
theorem ins_at {x : Un} {l : List Un} {k : Nat} (h1 : ∀ y ∈ l.take k, ahead y x = true) (h2 : ∀ y, l[k]? = some y → ahead y x = false) : ins x l = l.take k ++ x :: l.drop k := by
  have e : l = l.take k ++ l.drop k := (List.take_append_drop k l).symm
  have ht : l.takeWhile (fun y => ahead y x) = l.take k := by
    conv => lhs; rw [e]
    rw [List.takeWhile_append_of_pos h1]
    cases hd : l.drop k with
    | nil => simp
    | cons y r =>
      have : l[k]? = some y := by
        have := congrArg (fun t => t[0]?) hd
        simpa using this
      rw [List.takeWhile_cons, h2 y this]
      simp
  have hdw : l.dropWhile (fun y => ahead y x) = l.drop k := by
    have h3 := List.takeWhile_append_dropWhile (p := fun y => ahead y x) (l := l)
    rw [ht] at h3
    exact List.append_cancel_left (h3.trans e)
  rw [ins, ht, hdw]
/-- A net while a packet is laid. -/
structure LayOK (σ : NetS) (f : Fa) (k : Nat) (l : List Un) : Prop where
  sorted : Sorted l
  old : ∀ x ∈ l, x.2.1 < σ.sent ∨ (x.2.1 = σ.sent ∧ x.1 < σ.now + f.2.2 + k)
  len : l.length = σ.way.length + k
  soon : ∀ x ∈ l, x.1 ≤ σ.now + 103
theorem lay_ok {σ : NetS} (h : NetOK σ) (f : Fa) (p : Pk) (hf : f.2.2 ≤ 100) : ∀ k, k ≤ 4 → LayOK σ f k (σ.lay f p k)
  | 0, _ => ⟨h.sorted, fun x hx => .inl (h.old x hx), rfl, h.soon⟩
  | k + 1, hk => by
    have ih := lay_ok h f p hf k (by omega)
    rw [NetS.lay]
    refine ⟨sorted_ins ih.sorted (fun y hy e => ?_), fun x hx => ?_, ?_, fun x hx => ?_⟩
    · rcases ih.old y hy with h1 | ⟨_, h2⟩
      · have := e.2; simp only at this; omega
      · have := e.1; simp only at this; omega
    · rcases mem_ins.1 hx with rfl | hx
      · exact .inr ⟨rfl, by show σ.now + f.2.2 + k < _; omega⟩
      · rcases ih.old x hx with h1 | ⟨h1, h2⟩
        · exact .inl h1
        · exact .inr ⟨h1, by omega⟩
    · rw [length_ins, ih.len]; omega
    · rcases mem_ins.1 hx with rfl | hx
      · show σ.now + f.2.2 + k ≤ _; omega
      · exact ih.soon x hx
theorem fate_ok {σ : NetS} (h : NetOK σ) : σ.fate.2.1 ≤ 3 ∧ σ.fate.2.2 ≤ 100 := by
  unfold NetS.fate
  rw [List.getD_eq_getElem?_getD]
  cases hg : σ.fates[σ.sent]? with
  | none => exact ⟨Nat.zero_le _, Nat.zero_le _⟩
  | some f => exact h.fates f (List.mem_of_getElem? hg)
theorem send_ok {σ : NetS} (h : NetOK σ) (a b : Int) (s : ByteArray) : NetOK (σ.send a b s).2 := by
  unfold NetS.send
  split
  · exact h
  · split
    · exact h
    · split
      · exact ⟨h.sorted, fun x hx => Nat.lt_succ_of_lt (h.old x hx), h.len, h.fates, h.soon⟩
      · split
        · exact h
        · next hl =>
          have hf := fate_ok h
          have hL := lay_ok h σ.fate (a, b, s) hf.2 (σ.fate.2.1 + 1) (by omega)
          refine ⟨hL.sorted, fun x hx => ?_, ?_, h.fates, hL.soon⟩
          · show x.2.1 < σ.sent + 1
            rcases hL.old x hx with h1 | ⟨h1, _⟩ <;> omega
          · have := hL.len
            show (σ.lay σ.fate (a, b, s) (σ.fate.2.1 + 1)).length ≤ 4096
            omega
theorem next_ok {σ : NetS} (h : NetOK σ) : NetOK σ.next.2 := by
  unfold NetS.next
  split
  · exact h
  · next x r e =>
    split
    · exact h
    · have hs := h.sorted
      rw [e] at hs
      unfold Sorted at hs
      rw [List.pairwise_cons] at hs
      exact ⟨hs.2, fun y hy => h.old y (by rw [e]; exact List.mem_cons_of_mem _ hy), by have := h.len; rw [e] at this; simp at this; show r.length ≤ 4096; omega, h.fates, fun y hy => h.soon y (by rw [e]; exact List.mem_cons_of_mem _ hy)⟩
theorem tick_ok {σ : NetS} (h : NetOK σ) : NetOK σ.tick := ⟨h.sorted, h.old, h.len, h.fates, fun x hx => by have := h.soon x hx; show x.1 ≤ σ.now + 1 + 103; omega⟩
theorem lose_ok {σ : NetS} (h : NetOK σ) (e : Int) : NetOK (σ.lose e) := by
  refine ⟨List.Pairwise.filter _ h.sorted, fun x hx => h.old x (List.mem_filter.1 hx).1, ?_, h.fates, fun x hx => h.soon x (List.mem_filter.1 hx).1⟩
  exact Nat.le_trans (List.length_filter_le _ _) h.len
end Go.Proofs.Ytbmlgnmilolamaa
