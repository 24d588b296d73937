/-
  The small functions of a net. No statement is proved here.
-/
import Derived.Test.YtbmlgnmilolamaaNetMem
import Derived.StillTailTactics
namespace Go.Proofs.Ytbmlgnmilolamaa
open Go.RowKit
/-- A fault: its number, its place. -/
def FltAt (w : World) (b : Nat) (c at_ : Int) : Prop :=
  w.cell? ⟨b, 0, none⟩ = some (.int .i64 c) ∧ w.cell? ⟨b, 1, none⟩ = some (.string ⟨#[]⟩) ∧ w.cell? ⟨b, 2, none⟩ = some (.int .i64 at_) ∧ w.cell? ⟨b, 3, none⟩ = some .nilIface
def SomeFlt (c at_ : Int) (w : World) (e : Ending) (w' : World) : Prop := ∃ b, e = .returned (.iface 58 (.pointer (some ⟨b, 0, none⟩))) ∧ FltAt w' b c at_ ∧ Below w.heap.size w w'
theorem nfault_any (c at_ : Int) (w : World) : Calls Try.prog 13 #[.int .i64 c, .int .i64 at_] w (SomeFlt c at_ w) := by
  go_enter Try.func13, Try.ntmps13
  go_wp2_with fail
  go_ret
  refine ⟨w.heap.size, rfl, ⟨?_, ?_, ?_, ?_⟩, (Below.refl _ _).alloc (Nat.le_refl _) _⟩ <;> (rw [World.cell?_alloc_mark]; rfl)
section
variable {w : World} {p : Nat} {fv wv : Value} {σ : NetS}
theorem none_at (h : NetAt w p fv wv σ) : Calls Try.prog 16 #[.pointer (some ⟨p, 0, none⟩)] w fun e w' => e = .returned (.bool false) ∧ w = w' := by
  have c0 : w.cell? ⟨p, 0, none⟩ = some (.int .i64 σ.ends) := h.cell 0
  have h1 : ((σ.ends : Int) == 0) = false := beq_eq_false_iff_ne.2 (by have := h.pos; omega)
  clear h
  go_enter Try.func16, Try.ntmps16
  go_wp2_with fail
  go_ret
  exact ⟨rfl, rfl⟩
theorem end_at (h : NetAt w p fv wv σ) (k : Int) : Calls Try.prog 17 #[.pointer (some ⟨p, 0, none⟩), .int .i64 k] w fun e w' => e = .returned (.bool (decide (σ.isEnd k))) ∧ w = w' := by
  have c0 : w.cell? ⟨p, 0, none⟩ = some (.int .i64 σ.ends) := h.cell 0
  clear h
  by_cases hk : 0 ≤ k
  · go_enter Try.func17, Try.ntmps17
    go_wp2_with fail
    go_ret
    exact ⟨by simp [NetS.isEnd, hk], rfl⟩
  · rw [decide_eq_false (fun h : σ.isEnd k => hk h.1)]
    go_enter Try.func17, Try.ntmps17
    go_wp2_with fail
    go_ret
    exact ⟨rfl, rfl⟩
theorem Time_at (h : NetAt w p fv wv σ) : Calls Try.prog 11 #[.pointer (some ⟨p, 0, none⟩)] w fun e w' => e = .returned (.int .i64 σ.now) ∧ w = w' := by
  have c1 : w.cell? ⟨p, 1, none⟩ = some (.int .i64 σ.now) := h.cell 1
  have H := Lib.hid (none_at h)
  clear h
  go_enter Try.func11, Try.ntmps11
  go_wp2_with fail
  refine H.out.mono ?_; rintro e w' ⟨rfl, rfl⟩
  go_wp2_with fail
  go_ret
  exact ⟨rfl, rfl⟩
theorem Sent_at (h : NetAt w p fv wv σ) : Calls Try.prog 10 #[.pointer (some ⟨p, 0, none⟩)] w fun e w' => e = .returned (.int .i64 σ.sent) ∧ w = w' := by
  have c1 : w.cell? ⟨p, 2, none⟩ = some (.int .i64 σ.sent) := h.cell 2
  have H := Lib.hid (none_at h)
  clear h
  go_enter Try.func10, Try.ntmps10
  go_wp2_with fail
  refine H.out.mono ?_; rintro e w' ⟨rfl, rfl⟩
  go_wp2_with fail
  go_ret
  exact ⟨rfl, rfl⟩
set_option maxHeartbeats 1000000 in
theorem Tick_at (h : NetAt w p fv wv σ) (hn : σ.now < 1152921504606846976) : Calls Try.prog 8 #[.pointer (some ⟨p, 0, none⟩)] w fun e w' => e = .returned (.int .i64 (σ.now + 1 : Nat)) ∧ NetTo w p fv wv σ.tick w' := by
  have c1 : w.cell? ⟨p, 1, none⟩ = some (.int .i64 σ.now) := h.cell 1
  have f1 : w.frozen? ⟨p, 1, none⟩ = false := h.frozen 1
  have H := Lib.hid (none_at h)
  have HN := Lib.hid h
  have hw : IntKind.i64.wrap ((σ.now : Int) + 1) = ((σ.now + 1 : Nat) : Int) := by rw [IntKind.wrap_i64]; omega
  clear h
  go_enter Try.func8, Try.ntmps8
  go_wp2_with fail
  refine H.out.mono ?_; rintro e w' ⟨rfl, rfl⟩
  go_wp2_with fail
  go_ret
  refine ⟨by congr 2, ?_⟩
  exact HN.out.put 1 _ wv σ.tick w (Only.refl _ _) HN.out.hp (by simp [NetS.tick]) HN.out.hw rfl rfl (.inl rfl)
end
/-- What stands behind a nil pointer, and in a struct that no call made: no net. -/
theorem none_nil (w : World) : Calls Try.prog 16 #[.pointer none] w fun e w' => e = .returned (.bool true) ∧ w = w' := by
  go_enter Try.func16, Try.ntmps16
  go_wp2_with fail
  go_ret
  exact ⟨rfl, rfl⟩
theorem may_any (d : Bool) (a b : Int) (w : World) : Calls Try.prog 14 #[.agg #[.bool d, .int .i64 a, .int .i64 b]] w fun e w' => e = .returned (.bool (decide ((0 ≤ a ∧ a ≤ 3) ∧ 0 ≤ b ∧ b ≤ 100))) ∧ Below w.heap.size w w' := by
  by_cases h1 : 0 ≤ a
  · by_cases h2 : a ≤ 3
    · by_cases h3 : 0 ≤ b
      · by_cases h4 : b ≤ 100
        · rw [decide_eq_true (show (0 ≤ a ∧ a ≤ 3) ∧ 0 ≤ b ∧ b ≤ 100 from ⟨⟨h1, h2⟩, h3, h4⟩)]
          go_enter Try.func14, Try.ntmps14
          go_wp2_with fail
          go_ret
          exact ⟨rfl, (Below.refl _ _).alloc (Nat.le_refl _) _⟩
        · rw [decide_eq_false (show ¬ ((0 ≤ a ∧ a ≤ 3) ∧ 0 ≤ b ∧ b ≤ 100) from fun h => h4 h.2.2)]
          go_enter Try.func14, Try.ntmps14
          go_wp2_with fail
          go_ret
          exact ⟨rfl, (Below.refl _ _).alloc (Nat.le_refl _) _⟩
      · rw [decide_eq_false (show ¬ ((0 ≤ a ∧ a ≤ 3) ∧ 0 ≤ b ∧ b ≤ 100) from fun h => h3 h.2.1)]
        go_enter Try.func14, Try.ntmps14
        go_wp2_with fail
        go_ret
        exact ⟨rfl, (Below.refl _ _).alloc (Nat.le_refl _) _⟩
    · rw [decide_eq_false (show ¬ ((0 ≤ a ∧ a ≤ 3) ∧ 0 ≤ b ∧ b ≤ 100) from fun h => h2 h.1.2)]
      go_enter Try.func14, Try.ntmps14
      go_wp2_with fail
      go_ret
      exact ⟨rfl, (Below.refl _ _).alloc (Nat.le_refl _) _⟩
  · rw [decide_eq_false (show ¬ ((0 ≤ a ∧ a ≤ 3) ∧ 0 ≤ b ∧ b ≤ 100) from fun h => h1 h.1.1)]
    go_enter Try.func14, Try.ntmps14
    go_wp2_with fail
    go_ret
    exact ⟨rfl, (Below.refl _ _).alloc (Nat.le_refl _) _⟩
/-- The order of two packets under way, as a number. -/
def ordN (a b : Un) : Int := if a.1 = b.1 then (b.2.1 : Int) - a.2.1 else (a.1 : Int) - b.1
theorem ordN_lt (a b : Un) : ordN a b < 0 ↔ ahead a b = true := by
  rw [ahead_iff, ordN]
  split <;> omega
theorem order_any (x y : Un) (w : World) (hx : x.1 < 1152921504606846976 ∧ x.2.1 < 1152921504606846976) (hy : y.1 < 1152921504606846976 ∧ y.2.1 < 1152921504606846976) :
    Calls Try.prog 20 #[oneV x, oneV y] w fun e w' => e = .returned (.int .i64 (ordN x y)) ∧ Below w.heap.size w w' := by
  have hB : ∀ a b, Below w.heap.size w ((w.alloc a).alloc b) := fun a b => ((Below.refl _ _).alloc (Nat.le_refl _) _).alloc (by simp) _
  obtain ⟨a1, a2, a3, a4, a5⟩ := x
  obtain ⟨b1, b2, b3, b4, b5⟩ := y
  obtain ⟨hx1, hx2⟩ := hx
  obtain ⟨hy1, hy2⟩ := hy
  simp only [oneV] at *
  by_cases h : a1 = b1
  · rw [ordN, if_pos h]
    simp only
    have hw : IntKind.i64.wrap ((b2 : Int) - (a2 : Int)) = (b2 : Int) - (a2 : Int) := by rw [IntKind.wrap_i64]; omega
    subst h
    go_enter Try.func20, Try.ntmps20
    go_wp2_with fail
    go_ret
    exact ⟨rfl, hB _ _⟩
  · rw [ordN, if_neg h]
    simp only
    have hw : IntKind.i64.wrap ((a1 : Int) - (b1 : Int)) = (a1 : Int) - (b1 : Int) := by rw [IntKind.wrap_i64]; omega
    have hn : ((a1 : Int) == b1) = false := beq_eq_false_iff_ne.2 (by omega)
    go_enter Try.func20, Try.ntmps20
    go_wp2_with fail
    go_ret
    exact ⟨rfl, hB _ _⟩
end Go.Proofs.Ytbmlgnmilolamaa
