/-
  errors.Is of a *api.Fault at its own number. No statement is proved here.
-/
import Derived.Test.YtbmlgnmilolamaaDoorKit
import Derived.RowKitTokens
namespace Go.Proofs.YtbmlgnmilolamaaDoor
open Go.RowKit Go.Extern.Stop Go.Stop Go.Extern
/-- In w, block b holds a fault: number c, of nothing, there, nothing under it. -/
def FaultAt (w : World) (b : Nat) (c at_ : Int) : Prop :=
  w.cell? ⟨b, 0, none⟩ = some (.int .i64 c) ∧ w.cell? ⟨b, 1, none⟩ = some (.string ⟨#[]⟩) ∧ w.cell? ⟨b, 2, none⟩ = some (.int .i64 at_) ∧ w.cell? ⟨b, 3, none⟩ = some .nilIface
theorem FaultAt.below {w w' : World} {b : Nat} {c at_ : Int} (h : FaultAt w b c at_) (hb : Below w.heap.size w w') : FaultAt w' b c at_ := by
  obtain ⟨h0, h1, h2, h3⟩ := h
  have hlt := World.block_lt_of_cell? w _ h0
  exact ⟨(hb.cell (p := ⟨b, 0, none⟩) hlt).trans h0, (hb.cell (p := ⟨b, 1, none⟩) hlt).trans h1, (hb.cell (p := ⟨b, 2, none⟩) hlt).trans h2, (hb.cell (p := ⟨b, 3, none⟩) hlt).trans h3⟩
theorem cmp_errno : (Tryd.prog.info? 62).map (·.comparable) = some true := by kernel_rfl
theorem lacks_is : (Tryd.prog.info? 69).map (fun i => (lacking #[("Is", 121)] i.methods).isEmpty) = some false := by kernel_rfl
theorem is_typeOf (v : Value) (w : World) : (ReflectliteType.typeOf #[.iface 62 v]).run Tryd.prog w = .ok (.iface 107 (.agg #[.pointer (some ⟨1, 62, none⟩)])) w := by kernel_rfl
theorem is_method (h : Value) (w : World) : (Go.method 252 107 (.agg #[h]) "Comparable").run Tryd.prog w = .ok (81, .agg #[h]) w := by kernel_rfl
theorem is_comparable (w : World) : (ReflectliteType.method (fun t => do Rtype.noPackHeld "Comparable" t; (fun (a : TypeInfo) => Value.bool a.comparable) <$> typeInfo t) #[.agg #[.pointer (some ⟨1, 62, none⟩)]]).run Tryd.prog w = .ok (.bool true) w := by kernel_rfl
theorem is_same (c : Int) (w : World) : Calls Tryd.prog 47 #[.iface 62 (.int .i64 c), .iface 62 (.int .i64 c), .bool true] w fun e w' => e = .returned (.bool true) ∧ w = w' := by
  have hq := fun W => run_eql_iface_int (P := Tryd.prog) W (ti := 24) c c Tryd.underlying24 Tryd.underlying62 cmp_errno
  have hc : (c == c) = true := by simp
  go_enter Tryd.func47, Tryd.ntmps47
  go_wp2
  refine wp_loop_rounds 1 ?_
  rw [rounds_succ]
  go_wp2
  go_ret
  exact ⟨rfl, rfl⟩
theorem Unwrap_any (b : Nat) (c at_ : Int) (w : World) (h : FaultAt w b c at_) : Calls Tryd.prog 75 #[.pointer (some ⟨b, 0, none⟩)] w fun e w' =>
    e = .returned (.slice (some ⟨w.heap.size, 0, none⟩) 1 1) ∧ w.alloc (.cells #[.iface 62 (.int .i64 c)] 24) = w' := by
  obtain ⟨h0, _, _, h3⟩ := h
  go_enter Tryd.func75, Tryd.ntmps75
  go_wp2
  go_ret
  exact ⟨rfl, rfl⟩
theorem zero_is : (Tryd.prog.info? 119).map (·.zero) = some (some .nilIface) := by kernel_rfl
theorem zero_unw : (Tryd.prog.info? 114).map (·.zero) = some (some .nilIface) := by kernel_rfl
theorem lacks_is2 : (Tryd.prog.info? 69).map (fun i => (lacking #[("Is", 121)] i.methods).isEmpty) = some false := by kernel_rfl
theorem lacks_unw : (Tryd.prog.info? 69).map (fun i => (lacking #[("Unwrap", 115)] i.methods).isEmpty) = some false := by kernel_rfl
theorem has_unw : (Tryd.prog.info? 69).map (fun i => (lacking #[("Unwrap", 118)] i.methods).isEmpty) = some true := by kernel_rfl
theorem is_nilAhead (a : Addr) (w : World) : (nilAhead 252 69 (.pointer (some a)) "Unwrap").run Tryd.prog w = .ok (some false) w := by kernel_rfl
theorem is_unwrap (a : Addr) (w : World) : (Go.method 252 69 (.pointer (some a)) "Unwrap").run Tryd.prog w = .ok (75, .pointer (some a)) w := by kernel_rfl
set_option maxRecDepth 100000 in
set_option maxHeartbeats 2000000 in
theorem is_fault (b : Nat) (c at_ : Int) (w : World) (h : FaultAt w b c at_) :
    Calls Tryd.prog 47 #[.iface 69 (.pointer (some ⟨b, 0, none⟩)), .iface 62 (.int .i64 c), .bool true] w fun e w' => e = .returned (.bool true) ∧ Below w.heap.size w w' := by
  have hq := fun W => run_eql_iface_types (P := Tryd.prog) (ti := 24) 69 62 (.pointer (some ⟨b, 0, none⟩)) (.int .i64 c) Tryd.underlying24 (by decide) W
  have hl := fun (v : Value) (W : World) => run_typeAssert_lacksB (P := Tryd.prog) Tryd.underlying119 lacks_is2 zero_is v 24 W
  have hu := fun (v : Value) (W : World) => run_typeAssert_lacksB (P := Tryd.prog) Tryd.underlying114 lacks_unw zero_unw v 24 W
  have hh := fun (v : Value) (W : World) => run_typeAssert_hasB (P := Tryd.prog) Tryd.underlying116 has_unw v 24 W
  have hna := is_nilAhead
  have hmu := is_unwrap
  have HF := Lib.hid h
  clear h
  go_enter Tryd.func47, Tryd.ntmps47
  go_wp2_with fail
  refine wp_loop_rounds 1 ?_
  rw [rounds_succ]
  go_wp2_with fail
  refine (Unwrap_any b c at_ _ HF.out).mono ?_; rintro e w' ⟨rfl, rfl⟩
  go_wp2_with fail
  refine wp_loop_rounds 1 ?_
  rw [rounds_succ]
  go_wp2_with fail
  refine (is_same c _).mono ?_; rintro e w' ⟨rfl, rfl⟩
  go_wp2_with fail
  go_ret
  exact ⟨rfl, (Below.refl _ _).alloc (Nat.le_refl _) _⟩
set_option maxHeartbeats 2000000 in
set_option maxRecDepth 100000 in
theorem Is_fault (b : Nat) (c at_ : Int) (w : World) (h : FaultAt w b c at_) :
    Calls Tryd.prog 30 #[.iface 69 (.pointer (some ⟨b, 0, none⟩)), .iface 62 (.int .i64 c)] w fun e w' => e = .returned (.bool true) ∧ Below w.heap.size w w' := by
  have hT := @run_callFunc_extern Tryd.prog 46 _ ReflectliteType.typeOf Tryd.func46 (by kernel_rfl) (by kernel_rfl) (by kernel_rfl) (by kernel_rfl)
  have hC := @run_callFunc_extern Tryd.prog 81 _ (ReflectliteType.method (fun t => do Rtype.noPackHeld "Comparable" t; pure (.bool (← typeInfo t).comparable))) Tryd.func81 (by kernel_rfl) (by kernel_rfl) (by kernel_rfl) (by kernel_rfl)
  have tO := is_typeOf
  have mC := is_method
  have cC := is_comparable
  have HF := Lib.hid h
  clear h
  go_enter Tryd.func30, Tryd.ntmps30
  go_wp2_with fail
  refine (is_fault b c at_ _ HF.out).mono ?_; rintro e w' ⟨rfl, hb⟩
  go_wp2_with fail
  go_ret
  exact ⟨rfl, hb⟩
end Go.Proofs.YtbmlgnmilolamaaDoor
