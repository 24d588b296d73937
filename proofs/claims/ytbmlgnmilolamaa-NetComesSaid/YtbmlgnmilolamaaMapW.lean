/-
  A map of one's own from packets to numbers. No statement is proved here.
-/
import Derived.Test.YtbmlgnmilolamaaNextW
import Derived.Maps.OwnSet
import Derived.Maps.RangeWalk
import Derived.DeepKeys5
import Derived.Deep.Strs
import Derived.Lib.SmallJoins
namespace Go.Proofs.Ytbmlgnmilolamaa
open Go.RowKit
open Go.Maps (Keyed has)
/-- A packet between ends, its bytes within the bound. -/
def PkFine (p : Pk) : Prop := (0 ≤ p.1 ∧ p.1 < 64) ∧ (0 ≤ p.2.1 ∧ p.2.1 < 64) ∧ p.2.2.size ≤ 1048576
theorem m_laidOut : laidOutB Try.prog = true := by kernel_rfl
theorem packet_keyed : Keyed Try.prog 33 := Keyed.of_law (deep_law_laid m_laidOut (m := 2) (by omega) (of_decide_eq_true (by kernel_rfl)) (by kernel_rfl) (by kernel_rfl))
theorem i64_wf {a : Int} (h1 : -9223372036854775808 ≤ a) (h2 : a ≤ 9223372036854775807) : (Lit.int .i64 a).wf = true := by
  have h3 : IntKind.i64.min = -9223372036854775808 := by decide
  have h4 : IntKind.i64.max = 9223372036854775807 := by decide
  simp [Lit.wf, h3, h4]
  omega
theorem packet_key (w : World) (p : Pk) (h : PkFine p) : ∃ kl, keyOf Try.prog 33 (pkV p) = some kl := by
  have c1 : Try.prog.cellsOf 3 = 1 := by kernel_rfl
  have c2 : Try.prog.cellsOf 9 = 1 := by kernel_rfl
  have c3 : Try.prog.cellsOf 33 = 3 := by kernel_rfl
  obtain ⟨⟨a0, a1⟩, ⟨b0, b1⟩, hs⟩ := h
  have g0 : DataW.trod (H := Unit) (fun _ => ()) Try.prog w 0 (fun _ => false) false 1 3 [.int .i64 p.1] = some (.lit (.int .i64 p.1), []) := Go.ChangeShapes.trod_int_mk 0 Try.underlying3 (i64_wf (by omega) (by omega))
  have g1 : DataW.trod (H := Unit) (fun _ => ()) Try.prog w 0 (fun _ => false) false 1 3 [.int .i64 p.2.1] = some (.lit (.int .i64 p.2.1), []) := Go.ChangeShapes.trod_int_mk 0 Try.underlying3 (i64_wf (by omega) (by omega))
  have g2 : DataW.trod (H := Unit) (fun _ => ()) Try.prog w 0 (fun _ => false) false 1 9 [.string p.2.2] = some (.lit (.string p.2.2.data.toList), []) := by
    have : p.2.2.size ≤ maxLen := by unfold maxLen; omega
    simp [DataW.trod, Try.underlying9, this]
  have hT := Go.Deep.trod_struct3_mk (cs := [.int .i64 p.1, .int .i64 p.2.1, .string p.2.2]) Try.underlying33 c3.symm (by simp only [c1]; exact g0) (by simp only [c1]; exact g1) (by simp only [c2]; exact g2)
  have hf : (pkV p).formed Try.prog 33 = true := by simp [pkV, Value.formed, Try.underlying33, c3]
  exact ⟨_, (keyOf_asKey (by kernel_rfl) (by kernel_rfl) hf ⟨2, by simpa [pkV, Value.cells] using hT⟩).1⟩
/-- The block b is a map of at most n entries that says M of every packet. -/
def MapAt (w : World) (b n : Nat) (M : Pk → Option Int) : Prop :=
  ∃ D : DataW Unit, w.ownsMap Try.prog 33 (plainElem Try.prog 3) b n D ∧ (∀ p kl, keyOf Try.prog 33 (pkV p) = some kl → (M p = none → has D kl = false) ∧ ∀ c, M p = some c → ∀ z, D.atKey kl z = .lit (.int .i64 c)) ∧ ∀ kl, has D kl = true → ∃ p, keyOf Try.prog 33 (pkV p) = some kl
theorem MapAt.lt {w : World} {b n : Nat} {M : Pk → Option Int} (h : MapAt w b n M) : b < w.heap.size := by
  obtain ⟨D, h, _⟩ := h
  exact h.lt
theorem MapAt.mono {w : World} {b n m : Nat} {M : Pk → Option Int} (h : MapAt w b n M) (hm : n ≤ m) : MapAt w b m M := by
  obtain ⟨D, h, h2⟩ := h
  exact ⟨D, h.mono hm, h2⟩
theorem MapAt.made (w : World) : MapAt (w.alloc (.map #[] 0)) w.heap.size 0 (fun _ => none) :=
  ⟨_, World.ownsMap_made w _ _ _, (fun _ _ _ => ⟨fun _ => rfl, fun _ h => by cases h⟩), (fun _ h => by cases h)⟩
theorem MapAt.keep {S : Nat → Prop} {w w' : World} {b n : Nat} {M : Pk → Option Int} (h : MapAt w b n M) (ho : Only S w w') (hS : ¬ S b) : MapAt w' b n M := by
  obtain ⟨D, ⟨es, clock, hb, r⟩, h2⟩ := h
  exact ⟨D, ⟨es, clock, ho.heap hb hS, r⟩, h2⟩
theorem MapAt.below {w w' : World} {b n : Nat} {M : Pk → Option Int} (h : MapAt w b n M) (hb : Below w.heap.size w w') : MapAt w' b n M := h.keep (Only.of_below (S := fun _ => False) hb) (fun h => h)
theorem zero_int (w : World) : (zeroValue 3).run Try.prog w = .ok (.int .i64 0) w := by
  obtain ⟨i0, hi, hz0, hz1, hz2⟩ := info_parts (show (Try.prog.info? 3).map (fun i => (i.zero, i.size, i.bytes)) = some (some (.int .i64 0), 1, 8) by kernel_rfl)
  simp [zeroValue, typeInfo, hi, hz0]
theorem MapAt.look {w : World} {b n : Nat} {M : Pk → Option Int} (h : MapAt w b n M) (p : Pk) (hp : PkFine p) :
    (Instr.lookup 40 (.map (some b)) (pkV p) false).run Try.prog w = .ok (.int .i64 ((M p).getD 0)) w := by
  obtain ⟨D, h, h2, _⟩ := h
  obtain ⟨kl, hk⟩ := packet_key w p hp
  obtain ⟨h3, h4⟩ := h2 p kl hk
  obtain ⟨c, hrun, hat, _⟩ := h.lookup_int packet_keyed Try.underlying40 Try.underlying3 (zero_int w) hk
  cases hM : M p with
  | none =>
    rw [Maps.atKey_of_not_has (h3 hM)] at hat
    injection hat with hat
    injection hat with _ hat
    rw [hrun, ← hat]
    rfl
  | some c' =>
    rw [h4 c' hM] at hat
    injection hat with hat
    injection hat with _ hat
    rw [hrun, ← hat]
    rfl
theorem MapAt.look_ok {w : World} {b n : Nat} {M : Pk → Option Int} (h : MapAt w b n M) (p : Pk) (hp : PkFine p) :
    (Instr.lookup 40 (.map (some b)) (pkV p) true).run Try.prog w = .ok (.tuple #[.int .i64 ((M p).getD 0), .bool (M p).isSome]) w := by
  obtain ⟨D, h, h2, _⟩ := h
  obtain ⟨kl, hk⟩ := packet_key w p hp
  obtain ⟨h3, h4⟩ := h2 p kl hk
  obtain ⟨v, ps, hrun, hat⟩ := h.look_ok packet_keyed Try.underlying40 (zero_int w) (plainElem_int Try.underlying3 (i64_wf (by decide) (by decide))) hk
  obtain ⟨c, rfl, hc, _⟩ := plainElem_int_inv Try.underlying3 hat
  injection hc with hc _
  cases hM : M p with
  | none =>
    rw [Maps.atKey_of_not_has (h3 hM)] at hc
    injection hc with hc
    injection hc with _ hc
    rw [hrun, h3 hM, ← hc]
    rfl
  | some c' =>
    rw [h4 c' hM] at hc
    injection hc with hc
    injection hc with _ hc
    rw [hrun, Maps.has_true_of_atKey (h4 c' hM), ← hc]
    rfl
def upd (M : Pk → Option Int) (p : Pk) (c : Int) : Pk → Option Int := fun q => if q = p then some c else M q
theorem MapAt.put {w : World} {b n : Nat} {M : Pk → Option Int} (h : MapAt w b n M) (p : Pk) (hp : PkFine p) (c : Int) (hc : -9223372036854775808 ≤ c ∧ c ≤ 9223372036854775807) (hn : n < 1152921504606846976) :
    ∃ w', (Instr.mapUpdate 40 (.map (some b)) (pkV p) (.int .i64 c)).run Try.prog w = .ok () w' ∧ MapAt w' b (n + 1) (upd M p c) ∧ Only (fun k => k = b) w w' := by
  obtain ⟨D, h, h2, hall⟩ := h
  obtain ⟨kl, hk⟩ := packet_key w p hp
  obtain ⟨w', hrun, hown, hg⟩ := h.update packet_keyed Try.underlying40 (by unfold maxLen; omega) hk (plainElem_int Try.underlying3 (i64_wf hc.1 hc.2))
  have hkk := packet_keyed.key hk
  refine ⟨w', hrun, ⟨_, hown, fun q ql hq => ?_, fun ql hq => ?_⟩, Only.of_grown hg (fun k hk => by injection hk with hk; exact hk.symm)⟩
  rotate_left
  · by_cases hne : ql = kl
    · exact ⟨p, by rw [hne]; exact hk⟩
    · rw [Maps.has_put_other hne] at hq
      exact hall ql hq
  by_cases hqp : q = p
  · subst hqp
    rw [hk] at hq
    injection hq with hq
    subst hq
    refine ⟨fun hM => by simp [upd] at hM, fun c' hM z => ?_⟩
    simp only [upd, if_true] at hM
    injection hM with hM
    rw [Maps.atKey_put_same h.isMap hkk, hM]
  · have hne : ql ≠ kl := fun e => hqp (by
      have h5 := packet_keyed.inj (hq.trans (by rw [e])) hk
      simp only [pkV, Value.agg.injEq] at h5
      have h6 := congrArg Array.toList h5
      simp only [List.cons.injEq, Value.int.injEq, Value.string.injEq, true_and, and_true] at h6
      exact Prod.ext h6.1 (Prod.ext h6.2.1 h6.2.2))
    obtain ⟨h3, h4⟩ := h2 q ql hq
    refine ⟨fun hM => ?_, fun c' hM z => ?_⟩
    · rw [Maps.has_put_other hne]
      exact h3 (by simpa [upd, hqp] using hM)
    · rw [Maps.atKey_put_other hne]
      exact h4 c' (by simpa [upd, hqp] using hM) z
end Go.Proofs.Ytbmlgnmilolamaa
