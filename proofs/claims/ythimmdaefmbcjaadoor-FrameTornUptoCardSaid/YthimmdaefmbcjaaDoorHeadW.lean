/-
  frame.head: the twelve bytes ahead of a payload. No statement is proved here.
-/
import Derived.Test.YthimmdaefmbcjaaDoorSumWalks
import Derived.Test.YthimmdaefmbcjaaDoorSumOfW
namespace Go.Proofs.YthimmdaefmbcjaaDoor
open Go.RowKit
/-- The lowest k bytes of a number, the highest first. -/
def be (x : Nat) : Nat → List UInt8
  | 0 => []
  | k + 1 => UInt8.ofNat (x / 256 ^ k) :: be x k
theorem be_length (x k : Nat) : (be x k).length = k := by
  induction k with
  | zero => rfl
  | succ k ih => simp [be, ih]
/-- The sum of a record. -/
noncomputable def rsum (p : List UInt8) : Nat := more (more begin_ (be p.length 4)) p
noncomputable def headL (p : List UInt8) : List UInt8 := be p.length 4 ++ be (rsum p) 8
theorem headL_length (p : List UInt8) : (headL p).length = 12 := by simp [headL, be_length]
theorem be4 (x : Nat) : be x 4 = [UInt8.ofNat (x / 16777216), UInt8.ofNat (x / 65536), UInt8.ofNat (x / 256), UInt8.ofNat x] := by simp [be]
theorem be8 (x : Nat) : be x 8 = [UInt8.ofNat (x / 72057594037927936), UInt8.ofNat (x / 281474976710656), UInt8.ofNat (x / 1099511627776), UInt8.ofNat (x / 4294967296), UInt8.ofNat (x / 16777216), UInt8.ofNat (x / 65536), UInt8.ofNat (x / 256), UInt8.ofNat x] := by simp [be]
theorem u8of (x : Nat) : ((UInt8.ofNat x).toNat : Int) = (x : Int) % 256 := by rw [UInt8.toNat_ofNat']; omega
/-- 'string(h[:m])', h a new block. -/
theorem conv_new (w : World) (C : Array Value) (T k m cap : Nat) (l : List UInt8) (hk : k = w.heap.size) (hl : l.length = m) (hc : ∀ j (h : j < l.length), C[j]? = some (.int .u8 (l[j].toNat : Int))) :
    (convert 32 9 (.slice (some ⟨k, 0, none⟩) m cap)).run Tryd.prog (w.alloc (.cells C T)) = .ok (.string ⟨l.toArray⟩) (w.alloc (.cells C T)) := by
  subst hk hl
  refine run_convert_bytes_back _ 32 9 5 ⟨w.heap.size, 0, none⟩ cap l Tryd.underlying32 Tryd.underlying5 Tryd.underlying9 (fun j hj => ?_)
  rw [Addr.add_lit, Nat.zero_add, World.cell?_alloc_mark]
  exact hc j hj
/-- The same, orders having been drawn. -/
theorem conv_newN (w : World) (C : Array Value) (T k m cap : Nat) (l : List UInt8) (hk : k = w.heap.size) (hl : l.length = m) (hc : ∀ j (h : j < l.length), C[j]? = some (.int .u8 (l[j].toNat : Int))) :
    ∀ nq, (convert 32 9 (.slice (some ⟨k, 0, none⟩) m cap)).run Tryd.prog ((w.alloc (.cells C T)).drewN nq) = .ok (.string ⟨l.toArray⟩) ((w.alloc (.cells C T)).drewN nq) := by
  subst hk hl
  intro nq
  refine run_convert_bytes_back _ 32 9 5 ⟨w.heap.size, 0, none⟩ cap l Tryd.underlying32 Tryd.underlying5 Tryd.underlying9 (fun j hj => ?_)
  rw [Addr.add_lit, Nat.zero_add, World.cell?_drewN, World.cell?_alloc_mark]
  exact hc j hj
theorem cells_u8s (C : Array Value) (l : List UInt8) (rest : List Value) (h : C = (u8s l ++ rest).toArray) : ∀ j (h : j < l.length), C[j]? = some (.int .u8 (l[j].toNat : Int)) := by
  intro j hj
  subst h
  rw [List.getElem?_toArray, List.getElem?_append_left (by simpa [u8s] using hj)]
  simp [u8s, List.getElem?_eq_getElem hj]
set_option maxHeartbeats 4000000 in
set_option maxRecDepth 100000 in
theorem head_any (p : ByteArray) (w : World) (hp : p.size ≤ 131072) :
    Calls Tryd.prog 19 #[.string p] w fun e w' => e = .returned (.agg (u8s (headL p.data.toList)).toArray) ∧ Below w.heap.size w w' := by
  have HP : Hid (p.size ≤ maxLen) := Lib.hid (by unfold maxLen; omega)
  have H4 : Hid ((⟨(be p.size 4).toArray⟩ : ByteArray).size ≤ maxLen) := Lib.hid (by rw [ba_size, be_length]; unfold maxLen; omega)
  go_enter Tryd.func19, Tryd.ntmps19
  go_wp2
  refine wp_loop_rounds 5 ?_
  rw [rounds_succ]
  go_wp2
  rw [rounds_succ]
  go_wp2
  rw [rounds_succ]
  go_wp2
  rw [rounds_succ]
  go_wp2
  rw [rounds_succ]
  go_wp2_with fail
  rw [conv_new _ _ _ _ 4 12 (be p.size 4) (by simp) (be_length _ _) (cells_u8s _ _ (List.replicate 8 (.int .u8 0)) (by
    rw [be4]
    simp only [u8s, List.map_cons, List.map_nil, u8of, List.replicate, List.cons_append, List.nil_append]
    congr 3 <;> (try congr 1) <;> omega))]
  go_wp2_with fail
  refine (Of_any _ _ H4.out).mono ?_; rintro e w' ⟨rfl, rfl⟩
  go_wp2_with fail
  refine (More_any _ _ _ (more_lt _ _ begin_lt) HP.out).mono ?_; rintro e w' ⟨rfl, rfl⟩
  have hx := more_lt (more begin_ (⟨(be p.size 4).toArray⟩ : ByteArray).data.toList) p.data.toList (more_lt _ _ begin_lt)
  have hs : more (more begin_ (⟨(be p.size 4).toArray⟩ : ByteArray).data.toList) p.data.toList = rsum p.data.toList := by unfold rsum; rw [ba_len]
  rw [hs] at hx ⊢
  have HS := Lib.hid hs
  clear hs
  generalize hX : rsum p.data.toList = x at hx ⊢
  have HX := Lib.hid hX
  clear hX
  go_wp2
  refine wp_loop_rounds 9 ?_
  iterate 9 (rw [rounds_succ]; go_wp2)
  have hE : (u8s (headL p.data.toList)).toArray = #[.int .u8 ((p.size : Int) / 16777216), .int .u8 ((p.size : Int) / 65536), .int .u8 ((p.size : Int) / 256 % 256), .int .u8 ((p.size : Int) % 256),
      .int .u8 ((x : Int) / 72057594037927936), .int .u8 ((x : Int) / 281474976710656 % 256), .int .u8 ((x : Int) / 1099511627776 % 256), .int .u8 ((x : Int) / 4294967296 % 256), .int .u8 ((x : Int) / 16777216 % 256), .int .u8 ((x : Int) / 65536 % 256), .int .u8 ((x : Int) / 256 % 256), .int .u8 ((x : Int) % 256)] := by
    unfold headL
    rw [HX.out, ba_len, be4, be8]
    simp only [u8s, List.map_cons, List.map_nil, u8of, List.cons_append, List.nil_append]
    have e1 : (((p.size / 16777216 : Nat) : Int) % 256) = (p.size : Int) / 16777216 := by omega
    have e2 : (((p.size / 65536 : Nat) : Int) % 256) = (p.size : Int) / 65536 := by omega
    have e3 : (((p.size / 256 : Nat) : Int) % 256) = (p.size : Int) / 256 % 256 := by omega
    have f1 : (((x / 72057594037927936 : Nat) : Int) % 256) = (x : Int) / 72057594037927936 := by omega
    have f2 : (((x / 281474976710656 : Nat) : Int) % 256) = (x : Int) / 281474976710656 % 256 := by omega
    have f3 : (((x / 1099511627776 : Nat) : Int) % 256) = (x : Int) / 1099511627776 % 256 := by omega
    have f4 : (((x / 4294967296 : Nat) : Int) % 256) = (x : Int) / 4294967296 % 256 := by omega
    have f5 : (((x / 16777216 : Nat) : Int) % 256) = (x : Int) / 16777216 % 256 := by omega
    have f6 : (((x / 65536 : Nat) : Int) % 256) = (x : Int) / 65536 % 256 := by omega
    have f7 : (((x / 256 : Nat) : Int) % 256) = (x : Int) / 256 % 256 := by omega
    rw [e1, e2, e3, f1, f2, f3, f4, f5, f6, f7]
  rw [hE]
  refine bodyPost_ret (v := .agg #[.int .u8 ((p.size : Int) / 16777216), .int .u8 ((p.size : Int) / 65536), .int .u8 ((p.size : Int) / 256 % 256), .int .u8 ((p.size : Int) % 256),
      .int .u8 ((x : Int) / 72057594037927936), .int .u8 ((x : Int) / 281474976710656 % 256), .int .u8 ((x : Int) / 1099511627776 % 256), .int .u8 ((x : Int) / 4294967296 % 256), .int .u8 ((x : Int) / 16777216 % 256), .int .u8 ((x : Int) / 65536 % 256), .int .u8 ((x : Int) / 256 % 256), .int .u8 ((x : Int) % 256)]) (by simp [results, Tryd.results19, go_sem]) rfl ⟨rfl, ?_⟩
  exact ((Below.refl _ _).alloc (Nat.le_refl _) _).alloc (by simp) _
end Go.Proofs.YthimmdaefmbcjaaDoor
