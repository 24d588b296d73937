/-
  code.Word and the reference's: the same bytes. No statement is proved here.
-/
import Derived.Test.YtnfknbjdggkdpaaDoorCodeUintW
import Derived.Laws.IdiomStrings
namespace Go.Proofs.YtnfknbjdggkdpaaDoor
open Go.RowKit
def u8s (l : List UInt8) : List Value := l.map fun c => .int .u8 (c.toNat : Int)
/-- The lowest k bytes of a number, the highest first. -/
def be (x : Nat) : Nat → List UInt8
  | 0 => []
  | k + 1 => UInt8.ofNat (x / 256 ^ k) :: be x k
theorem be_length (x k : Nat) : (be x k).length = k := by
  induction k with
  | zero => rfl
  | succ k ih => simp [be, ih]
theorem be8 (x : Nat) : be x 8 = [UInt8.ofNat (x / 72057594037927936), UInt8.ofNat (x / 281474976710656), UInt8.ofNat (x / 1099511627776), UInt8.ofNat (x / 4294967296), UInt8.ofNat (x / 16777216), UInt8.ofNat (x / 65536), UInt8.ofNat (x / 256), UInt8.ofNat x] := by simp [be]
theorem u8of (x : Nat) : ((UInt8.ofNat x).toNat : Int) = (x : Int) % 256 := by rw [UInt8.toNat_ofNat']; omega
/-- 'string(h[:m])', h a new block. -/
theorem conv_new (w : World) (C : Array Value) (T k m cap : Nat) (l : List UInt8) (hk : k = w.heap.size) (hl : l.length = m) (hc : ∀ j (h : j < l.length), C[j]? = some (.int .u8 (l[j].toNat : Int))) :
    (convert 81 9 (.slice (some ⟨k, 0, none⟩) m cap)).run Tryd.prog (w.alloc (.cells C T)) = .ok (.string ⟨l.toArray⟩) (w.alloc (.cells C T)) := by
  subst hk hl
  refine run_convert_bytes_back _ 81 9 5 ⟨w.heap.size, 0, none⟩ cap l Tryd.underlying81 Tryd.underlying5 Tryd.underlying9 (fun j hj => ?_)
  rw [Addr.add_lit, Nat.zero_add, World.cell?_alloc_mark]
  exact hc j hj
theorem cells_u8s (C : Array Value) (l : List UInt8) (rest : List Value) (h : C = (u8s l ++ rest).toArray) : ∀ j (h : j < l.length), C[j]? = some (.int .u8 (l[j].toNat : Int)) := by
  intro j hj
  subst h
  rw [List.getElem?_toArray, List.getElem?_append_left (by simpa [u8s] using hj)]
  simp [u8s, List.getElem?_eq_getElem hj]
theorem mk8 (w : World) : (Instr.makeSlice 81 (.int .i64 8) (.int .i64 8)).run Tryd.prog w = .ok (.slice (some ⟨w.heap.size, 0, none⟩) 8 8) (w.alloc (.cells #[.int .u8 0, .int .u8 0, .int .u8 0, .int .u8 0, .int .u8 0, .int .u8 0, .int .u8 0, .int .u8 0] 5)) := by kernel_rfl
set_option maxHeartbeats 4000000 in
set_option maxRecDepth 100000 in
theorem refWord_any (x : Nat) (w : World) (hx : x < 18446744073709551616) :
    Calls Tryd.prog 14 #[.int .u64 x] w fun e w' => e = .returned (.string ⟨(be x 8).toArray⟩) ∧ Below w.heap.size w w' := by
  have hm := mk8
  go_enter Tryd.func14, Tryd.ntmps14
  go_wp2
  refine wp_loop_rounds 9 ?_
  iterate 9 (rw [rounds_succ]; go_wp2_with fail)
  rw [conv_new _ _ _ _ 8 8 (be x 8) (by simp) (be_length _ _) (cells_u8s _ _ [] (by
    rw [be8]
    simp only [u8s, List.map_cons, List.map_nil, u8of, List.append_nil]
    congr 3 <;> (try congr 1) <;> omega))]
  go_wp2_with fail
  go_ret
  exact ⟨rfl, (Below.refl _ _).alloc (Nat.le_refl _) _⟩
set_option maxHeartbeats 4000000 in
set_option maxRecDepth 100000 in
theorem Word_any (x : Nat) (w : World) (hx : x < 18446744073709551616) :
    Calls Tryd.prog 13 #[.int .u64 x] w fun e w' => e = .returned (.string ⟨(be x 8).toArray⟩) ∧ Below w.heap.size w w' := by
  go_enter Tryd.func13, Tryd.ntmps13
  go_wp2
  refine wp_loop_rounds 9 ?_
  iterate 9 (rw [rounds_succ]; go_wp2_with fail)
  rw [conv_new _ _ _ _ 8 8 (be x 8) (by simp) (be_length _ _) (cells_u8s _ _ [] (by
    rw [be8]
    simp only [u8s, List.map_cons, List.map_nil, u8of, List.append_nil]
    congr 3 <;> (try congr 1) <;> omega))]
  go_wp2_with fail
  go_ret
  exact ⟨rfl, (Below.refl _ _).alloc (Nat.le_refl _) _⟩
end Go.Proofs.YtnfknbjdggkdpaaDoor
