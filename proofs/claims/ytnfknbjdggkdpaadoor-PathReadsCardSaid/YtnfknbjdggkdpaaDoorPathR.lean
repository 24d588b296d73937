/-
  path.Read. No statement is proved here.
-/
import Derived.Test.YtnfknbjdggkdpaaDoorReadPlain
import Derived.Test.YtnfknbjdggkdpaaDoorReadW
namespace Go.Proofs.YtnfknbjdggkdpaaDoor
open Go.RowKit
def noP : PR := (0, 0, 0, 0, [])
def pathV (p : PR) : Value := .agg #[.int .u8 p.1, .int .i64 p.2.1, .int .u64 p.2.2.1, .int .u32 p.2.2.2.1, .string ⟨p.2.2.2.2.toArray⟩]
def ReadIs (o : Option PR) (w : World) (e : Ending) (w' : World) : Prop := e = .returned (.tuple #[pathV (o.getD noP), .int .i64 (match o with | none => 110 | some _ => 0)]) ∧ Below w.heap.size w w'
structure CellsP (W : World) (b : Nat) (k n s p : Int) (m : ByteArray) : Prop where
  c0 : W.cell? ⟨b, 0, none⟩ = some (.int .u8 k)
  c1 : W.cell? ⟨b, 1, none⟩ = some (.int .i64 n)
  c2 : W.cell? ⟨b, 2, none⟩ = some (.int .u64 s)
  c3 : W.cell? ⟨b, 3, none⟩ = some (.int .u32 p)
  c4 : W.cell? ⟨b, 4, none⟩ = some (.string m)
  f0 : W.frozen? ⟨b, 0, none⟩ = false
  f1 : W.frozen? ⟨b, 1, none⟩ = false
  f2 : W.frozen? ⟨b, 2, none⟩ = false
  f3 : W.frozen? ⟨b, 3, none⟩ = false
  f4 : W.frozen? ⟨b, 4, none⟩ = false
theorem CellsP.below {W W' : World} {b : Nat} {k n s p : Int} {m : ByteArray} (h : CellsP W b k n s p m) (hb : Below W.heap.size W W') : CellsP W' b k n s p m :=
  have hlt := World.block_lt_of_cell? W _ h.c0
  ⟨(hb.cell (p := ⟨b, 0, none⟩) hlt).trans h.c0, (hb.cell (p := ⟨b, 1, none⟩) hlt).trans h.c1, (hb.cell (p := ⟨b, 2, none⟩) hlt).trans h.c2, (hb.cell (p := ⟨b, 3, none⟩) hlt).trans h.c3, (hb.cell (p := ⟨b, 4, none⟩) hlt).trans h.c4,
   (hb.frozen (p := ⟨b, 0, none⟩) hlt).trans h.f0, (hb.frozen (p := ⟨b, 1, none⟩) hlt).trans h.f1, (hb.frozen (p := ⟨b, 2, none⟩) hlt).trans h.f2, (hb.frozen (p := ⟨b, 3, none⟩) hlt).trans h.f3, (hb.frozen (p := ⟨b, 4, none⟩) hlt).trans h.f4⟩
theorem CellsP.new (W : World) (T : TypeId) (k n s p : Int) (m : ByteArray) : CellsP (W.alloc (.cells #[.int .u8 k, .int .i64 n, .int .u64 s, .int .u32 p, .string m] T)) W.heap.size k n s p m := by
  refine ⟨?_, ?_, ?_, ?_, ?_, ?_, ?_, ?_, ?_, ?_⟩
  all_goals first | (rw [World.cell?_alloc_mark]; rfl) | (rw [World.frozen?_alloc_mark]; rfl)
/-- Two structs, and what was before. -/
structure Two (w W : World) (k n s p : Int) (m : ByteArray) : Prop where
  z : CellsP W w.heap.size 0 0 0 0 ⟨#[]⟩
  q : CellsP W (w.heap.size + 1) k n s p m
  b : Below w.heap.size w W
theorem Two.below {w W W' : World} {k n s p : Int} {m : ByteArray} (h : Two w W k n s p m) (hb : Below W.heap.size W W') : Two w W' k n s p m :=
  ⟨h.z.below hb, h.q.below hb, h.b.trans (hb.mono h.b.size)⟩
theorem two_new (w : World) (T : TypeId) (q : Nat) (k n s p : Int) (m : ByteArray) :
    Two w (((w.alloc (.cells #[.int .u8 0, .int .i64 0, .int .u64 0, .int .u32 0, .string ⟨#[]⟩] T)).drewN q).alloc (.cells #[.int .u8 k, .int .i64 n, .int .u64 s, .int .u32 p, .string m] T)) k n s p m := by
  obtain ⟨W, hW⟩ : ∃ W, (w.alloc (.cells #[.int .u8 0, .int .i64 0, .int .u64 0, .int .u32 0, .string ⟨#[]⟩] T)).drewN q = W := ⟨_, rfl⟩
  have hB0 : Below w.heap.size w W := by rw [← hW]; exact below_drewN ((Below.refl _ _).alloc (Nat.le_refl _) _) q
  have hz0 : CellsP W w.heap.size 0 0 0 0 ⟨#[]⟩ := by rw [← hW]; exact (CellsP.new w T 0 0 0 0 ⟨#[]⟩).below (below_drewN (Below.refl _ _) q)
  have hsz : W.heap.size = w.heap.size + 1 := by rw [← hW]; simp
  rw [hW]
  have hB1 : Below W.heap.size W (W.alloc (.cells #[.int .u8 k, .int .i64 n, .int .u64 s, .int .u32 p, .string m] T)) := (Below.refl _ _).alloc (Nat.le_refl _) _
  exact ⟨hz0.below hB1, by rw [← hsz]; exact CellsP.new W T k n s p m, hB0.trans (hB1.mono hB0.size)⟩
theorem list_ne {l m : List UInt8} (h : l ≠ m) (x : l = m) : False := h x
section
variable {s h r : ByteArray} {f : Bool} (hc : IsCut s 47 h r f)
include hc
theorem none_log (hh : h.data.toList = logK) (hn : logO (numP 0 r.data.toList) ≠ some s.data.toList) : readR s.data.toList = none := by
  refine readR_none (fun n x => ?_) (fun n x => ?_) (fun m x => ?_) (fun a n x => ?_)
  · have e := (cut_log hc x).2
    refine hn ?_
    rw [e, numP_pad8 n x.2.1, logO, if_pos ⟨by have := x.1; omega, by have := x.2.1; omega⟩, x.2.2]
    rfl
  · have e := (cut_stage hc x).1; rw [hh] at e; exact absurd e (by decide)
  · have e := (cut_page hc x).1; rw [hh] at e; exact absurd e (by decide)
  · have e := (cut_blob hc x).1; rw [hh] at e; exact absurd e (by decide)
theorem none_stage (hh : h.data.toList = stageK) (hn : stageO (numP 0 r.data.toList) ≠ some s.data.toList) : readR s.data.toList = none := by
  refine readR_none (fun n x => ?_) (fun n x => ?_) (fun m x => ?_) (fun a n x => ?_)
  · have e := (cut_log hc x).1; rw [hh] at e; exact absurd e (by decide)
  · have e := (cut_stage hc x).2
    refine hn ?_
    rw [e, numP_dec n (by have := x.2.1; omega), stageO, if_pos ⟨by have := x.1; omega, by have := x.2.1; omega⟩, x.2.2]
    rfl
  · have e := (cut_page hc x).1; rw [hh] at e; exact absurd e (by decide)
  · have e := (cut_blob hc x).1; rw [hh] at e; exact absurd e (by decide)
theorem none_page (hh : h.data.toList = pageK) (hn : pageO r.data.toList ≠ some s.data.toList) : readR s.data.toList = none := by
  refine readR_none (fun n x => ?_) (fun n x => ?_) (fun m x => ?_) (fun a n x => ?_)
  · have e := (cut_log hc x).1; rw [hh] at e; exact absurd e (by decide)
  · have e := (cut_stage hc x).1; rw [hh] at e; exact absurd e (by decide)
  · have e := (cut_page hc x).2
    refine hn ?_
    rw [e, pageO, if_pos x.1, x.2]
  · have e := (cut_blob hc x).1; rw [hh] at e; exact absurd e (by decide)
theorem none_blob (hh : h.data.toList = blobK) {x nn : ByteArray} {f2 : Bool} (hc2 : IsCut r 45 x nn f2) (hn : numP 0 nn.data.toList < 4294967296 → blobO (hexVal x.data.toList) (numP 0 nn.data.toList) ≠ some s.data.toList) : readR s.data.toList = none := by
  refine readR_none (fun n y => ?_) (fun n y => ?_) (fun m y => ?_) (fun a n y => ?_)
  · have e := (cut_log hc y).1; rw [hh] at e; exact absurd e (by decide)
  · have e := (cut_stage hc y).1; rw [hh] at e; exact absurd e (by decide)
  · have e := (cut_page hc y).1; rw [hh] at e; exact absurd e (by decide)
  · have e := (cut_blob hc y).2
    obtain ⟨e1, e2, _⟩ := hc2.of e (hexl_ne a 16)
    have e3 := numP_dec n (by have := y.2.2.1; omega)
    rw [e2, e3, e1, (hex_back a y.1).1] at hn
    exact hn y.2.2.1 (by rw [blobO, if_pos y.2.1, y.2.2.2])
theorem none_else (h1 : h.data.toList ≠ logK) (h2 : h.data.toList ≠ stageK) (h3 : h.data.toList ≠ pageK) (h4 : h.data.toList ≠ blobK) : readR s.data.toList = none :=
  readR_none (fun _ x => h1 (cut_log hc x).1) (fun _ x => h2 (cut_stage hc x).1) (fun _ x => h3 (cut_page hc x).1) (fun _ _ x => h4 (cut_blob hc x).1)
end
theorem some_log {l : List UInt8} {n : Nat} (h : logO n = some l) : readR l = some (1, n, 0, 0, []) := by
  unfold logO at h
  split at h
  · rename_i hn
    have e := Option.some.inj h
    exact readR_log ⟨by omega, by omega, by rw [← e]; rfl⟩
  · cases h
theorem some_stage {l : List UInt8} {n : Nat} (h : stageO n = some l) : readR l = some (4, n, 0, 0, []) := by
  unfold stageO at h
  split at h
  · rename_i hn
    have e := Option.some.inj h
    exact readR_stage ⟨by omega, by omega, by rw [← e]; rfl⟩
  · cases h
theorem some_page {l m : List UInt8} (h : pageO m = some l) : readR l = some (3, 0, 0, 0, m) := by
  unfold pageO at h
  split at h
  · rename_i hn
    exact readR_page ⟨hn, (Option.some.inj h).symm⟩
  · cases h
theorem some_blob {l : List UInt8} {s n : Nat} (hs : s < 18446744073709551616) (hn : n < 4294967296) (h : blobO s n = some l) : readR l = some (2, 0, s, n, []) := by
  unfold blobO at h
  split at h
  · rename_i h1
    exact readR_blob ⟨hs, h1, hn, (Option.some.inj h).symm⟩
  · cases h
set_option maxHeartbeats 4000000 in
set_option maxRecDepth 100000 in
theorem Read_log (s r : ByteArray) (f : Bool) (w : World) (hs : s.size ≤ 140737488355328) (hT : TabH w) (hc : IsCut s 47 ⟨#[108, 111, 103]⟩ r f) (hr : r.size ≤ 140737488355328)
    (hC : ∀ W, Calls Tryd.prog 58 #[.string s, .string ⟨#[47]⟩] W fun e w' => e = .returned (.tuple #[.string ⟨#[108, 111, 103]⟩, .string r, .bool f]) ∧ ∃ n, w' = W.drewN n) :
    Calls Tryd.prog 37 #[.string s] w (ReadIs (readR s.data.toList) w) := by
  obtain ⟨n, hn⟩ : ∃ n, numP 0 r.data.toList = n := ⟨_, rfl⟩
  have hnb : n ≤ 10995116277769 := by rw [← hn]; exact (numP_val _ 0 (by omega)).2.2
  have hN := fun W => number_any r W hr
  rw [hn] at hN
  have hL := fun W hT => Log_any n W hT
  have hno := none_log hc rfl
  rw [hn] at hno
  have HC := Lib.hid hC
  have HN := Lib.hid hN
  have HT := Lib.hid hT
  have HNO := Lib.hid hno
  have HL := Lib.hid hL
  clear hC hN hT hno hn hc hL
  go_enter Tryd.func37, Tryd.ntmps37
  go_wp2_with fail
  refine (HC.out _).mono ?_; rintro e w1 ⟨rfl, q, rfl⟩
  go_wp2_with fail
  refine (HN.out _).mono ?_; rintro e w' ⟨rfl, rfl⟩
  go_wp2_with fail
  have h2 := two_new w 59 q 1 n 0 0 ⟨#[]⟩
  refine (HL.out _ (HT.out.below h2.b)).mono ?_; rintro e w3 ⟨rfl, hb3⟩
  have HW := Lib.hid (h2.below hb3)
  clear h2 hb3
  cases hlo : logO (n : Int) with
  | none =>
    have HR := Lib.hid (HNO.out (by rw [hlo]; simp))
    clear hlo HNO HL
    obtain ⟨z0, z1, z2, z3, z4, y0, y1, y2, y3, y4⟩ := HW.out.z
    simp only [Option.getD_none]
    go_wp2_with fail
    refine bodyPost_ret (v := .tuple #[pathV noP, .int .i64 110]) (by simp [results, Tryd.results37, go_sem, asAddr, z0, z1, z2, z3, z4, pathV, noP]) rfl ?_
    rw [HR.out]
    exact ⟨rfl, ((((HW.out.b.setCell (by simp) _).setCell (by simp) _).setCell (by simp) _).setCell (by simp) _).setCell (by simp) _⟩
  | some l =>
    obtain ⟨T, hT⟩ : ∃ T : ByteArray, (⟨l.toArray⟩ : ByteArray) = T := ⟨_, rfl⟩
    simp only [Option.getD_some]
    rw [hT]
    obtain ⟨z0, z1, z2, z3, z4, y0, y1, y2, y3, y4⟩ := HW.out.z
    by_cases he : T = s
    · have HR : Hid (readR s.data.toList = some (1, n, 0, 0, [])) := Lib.hid (some_log (by rw [hlo, ← he, ← hT]))
      obtain ⟨q0, q1, q2, q3, q4, _, _, _, _, _⟩ := HW.out.q
      subst he
      clear hlo HNO HL hT
      go_wp2_with fail
      refine bodyPost_ret (v := .tuple #[pathV (1, n, 0, 0, []), .int .i64 0]) (by simp [results, Tryd.results37, go_sem, asAddr, z0, z1, z2, z3, z4, pathV]) rfl ?_
      rw [HR.out]
      exact ⟨rfl, ((((HW.out.b.setCell (by simp) _).setCell (by simp) _).setCell (by simp) _).setCell (by simp) _).setCell (by simp) _⟩
    · have HR := Lib.hid (HNO.out (fun x => he (by rw [← hT]; apply ba_inj; rw [hlo] at x; simpa using Option.some.inj x)))
      have hne3 : ¬ T.toList = s.toList := by
        rw [ByteArray.toList_eq, ByteArray.toList_eq]
        exact fun e => he (ba_inj _ _ e)
      have hne : (T.toList == s.toList) = false := beq_eq_false_iff_ne.2 hne3
      have hne2 : (T.toList != s.toList) = true := bne_iff_ne.2 hne3
      clear hlo HNO HL hT he
      go_wp2_with fail
      refine bodyPost_ret (v := .tuple #[pathV noP, .int .i64 110]) (by simp [results, Tryd.results37, go_sem, asAddr, z0, z1, z2, z3, z4, pathV, noP]) rfl ?_
      rw [HR.out]
      exact ⟨rfl, ((((HW.out.b.setCell (by simp) _).setCell (by simp) _).setCell (by simp) _).setCell (by simp) _).setCell (by simp) _⟩
set_option maxHeartbeats 4000000 in
set_option maxRecDepth 100000 in
theorem Read_stage (s r : ByteArray) (f : Bool) (w : World) (hs : s.size ≤ 140737488355328) (hT : TabH w) (hc : IsCut s 47 ⟨#[115, 116, 97, 103, 101]⟩ r f) (hr : r.size ≤ 140737488355328)
    (hC : ∀ W, Calls Tryd.prog 58 #[.string s, .string ⟨#[47]⟩] W fun e w' => e = .returned (.tuple #[.string ⟨#[115, 116, 97, 103, 101]⟩, .string r, .bool f]) ∧ ∃ n, w' = W.drewN n) :
    Calls Tryd.prog 37 #[.string s] w (ReadIs (readR s.data.toList) w) := by
  obtain ⟨n, hn⟩ : ∃ n, numP 0 r.data.toList = n := ⟨_, rfl⟩
  have hnb : n ≤ 10995116277769 := by rw [← hn]; exact (numP_val _ 0 (by omega)).2.2
  have hN := fun W => number_any r W hr
  rw [hn] at hN
  have hL := fun W hT => Stage_any n W hT
  have hno := none_stage hc rfl
  rw [hn] at hno
  have HC := Lib.hid hC
  have HN := Lib.hid hN
  have HT := Lib.hid hT
  have HNO := Lib.hid hno
  have HL := Lib.hid hL
  clear hC hN hT hno hn hc hL
  go_enter Tryd.func37, Tryd.ntmps37
  go_wp2_with fail
  refine (HC.out _).mono ?_; rintro e w1 ⟨rfl, q, rfl⟩
  go_wp2_with fail
  refine (HN.out _).mono ?_; rintro e w' ⟨rfl, rfl⟩
  go_wp2_with fail
  have h2 := two_new w 59 q 4 n 0 0 ⟨#[]⟩
  refine (HL.out _ (HT.out.below h2.b)).mono ?_; rintro e w3 ⟨rfl, hb3⟩
  have HW := Lib.hid (h2.below hb3)
  clear h2 hb3
  cases hlo : stageO (n : Int) with
  | none =>
    have HR := Lib.hid (HNO.out (by rw [hlo]; simp))
    clear hlo HNO HL
    obtain ⟨z0, z1, z2, z3, z4, y0, y1, y2, y3, y4⟩ := HW.out.z
    simp only [Option.getD_none]
    go_wp2_with fail
    refine bodyPost_ret (v := .tuple #[pathV noP, .int .i64 110]) (by simp [results, Tryd.results37, go_sem, asAddr, z0, z1, z2, z3, z4, pathV, noP]) rfl ?_
    rw [HR.out]
    exact ⟨rfl, ((((HW.out.b.setCell (by simp) _).setCell (by simp) _).setCell (by simp) _).setCell (by simp) _).setCell (by simp) _⟩
  | some l =>
    obtain ⟨T, hT⟩ : ∃ T : ByteArray, (⟨l.toArray⟩ : ByteArray) = T := ⟨_, rfl⟩
    simp only [Option.getD_some]
    rw [hT]
    obtain ⟨z0, z1, z2, z3, z4, y0, y1, y2, y3, y4⟩ := HW.out.z
    by_cases he : T = s
    · have HR : Hid (readR s.data.toList = some (4, n, 0, 0, [])) := Lib.hid (some_stage (by rw [hlo, ← he, ← hT]))
      obtain ⟨q0, q1, q2, q3, q4, _, _, _, _, _⟩ := HW.out.q
      subst he
      clear hlo HNO HL hT
      go_wp2_with fail
      refine bodyPost_ret (v := .tuple #[pathV (4, n, 0, 0, []), .int .i64 0]) (by simp [results, Tryd.results37, go_sem, asAddr, z0, z1, z2, z3, z4, pathV]) rfl ?_
      rw [HR.out]
      exact ⟨rfl, ((((HW.out.b.setCell (by simp) _).setCell (by simp) _).setCell (by simp) _).setCell (by simp) _).setCell (by simp) _⟩
    · have HR := Lib.hid (HNO.out (fun x => he (by rw [← hT]; apply ba_inj; rw [hlo] at x; simpa using Option.some.inj x)))
      have hne3 : ¬ T.toList = s.toList := by
        rw [ByteArray.toList_eq, ByteArray.toList_eq]
        exact fun e => he (ba_inj _ _ e)
      have hne : (T.toList == s.toList) = false := beq_eq_false_iff_ne.2 hne3
      have hne2 : (T.toList != s.toList) = true := bne_iff_ne.2 hne3
      clear hlo HNO HL hT he
      go_wp2_with fail
      refine bodyPost_ret (v := .tuple #[pathV noP, .int .i64 110]) (by simp [results, Tryd.results37, go_sem, asAddr, z0, z1, z2, z3, z4, pathV, noP]) rfl ?_
      rw [HR.out]
      exact ⟨rfl, ((((HW.out.b.setCell (by simp) _).setCell (by simp) _).setCell (by simp) _).setCell (by simp) _).setCell (by simp) _⟩
set_option maxHeartbeats 4000000 in
set_option maxRecDepth 100000 in
theorem Read_page (s r : ByteArray) (f : Bool) (w : World) (hs : s.size ≤ 140737488355328) (hT : TabH w) (hc : IsCut s 47 ⟨#[112, 97, 103, 101]⟩ r f) (hr : r.size ≤ 140737488355328)
    (hC : ∀ W, Calls Tryd.prog 58 #[.string s, .string ⟨#[47]⟩] W fun e w' => e = .returned (.tuple #[.string ⟨#[112, 97, 103, 101]⟩, .string r, .bool f]) ∧ ∃ n, w' = W.drewN n) :
    Calls Tryd.prog 37 #[.string s] w (ReadIs (readR s.data.toList) w) := by
  have hL := fun W => Page_any r W hr
  have hno := none_page hc rfl
  have HC := Lib.hid hC
  have HT := Lib.hid hT
  have HNO := Lib.hid hno
  have HL := Lib.hid hL
  clear hC hT hno hc hL
  go_enter Tryd.func37, Tryd.ntmps37
  go_wp2_with fail
  refine (HC.out _).mono ?_; rintro e w1 ⟨rfl, q, rfl⟩
  go_wp2_with fail
  have h2 := two_new w 59 q 3 0 0 0 r
  refine (HL.out _).mono ?_; rintro e w3 ⟨rfl, hb3⟩
  have HW := Lib.hid (h2.below hb3)
  clear h2 hb3
  cases hlo : pageO r.data.toList with
  | none =>
    have HR := Lib.hid (HNO.out (by rw [hlo]; simp))
    clear hlo HNO HL
    obtain ⟨z0, z1, z2, z3, z4, y0, y1, y2, y3, y4⟩ := HW.out.z
    simp only [Option.getD_none]
    go_wp2_with fail
    refine bodyPost_ret (v := .tuple #[pathV noP, .int .i64 110]) (by simp [results, Tryd.results37, go_sem, asAddr, z0, z1, z2, z3, z4, pathV, noP]) rfl ?_
    rw [HR.out]
    exact ⟨rfl, ((((HW.out.b.setCell (by simp) _).setCell (by simp) _).setCell (by simp) _).setCell (by simp) _).setCell (by simp) _⟩
  | some l =>
    obtain ⟨T, hT⟩ : ∃ T : ByteArray, (⟨l.toArray⟩ : ByteArray) = T := ⟨_, rfl⟩
    simp only [Option.getD_some]
    rw [hT]
    obtain ⟨z0, z1, z2, z3, z4, y0, y1, y2, y3, y4⟩ := HW.out.z
    by_cases he : T = s
    · have HR : Hid (readR s.data.toList = some (3, 0, 0, 0, r.data.toList)) := Lib.hid (some_page (by rw [hlo, ← he, ← hT]))
      obtain ⟨q0, q1, q2, q3, q4, _, _, _, _, _⟩ := HW.out.q
      subst he
      clear hlo HNO HL hT
      go_wp2_with fail
      refine bodyPost_ret (v := .tuple #[pathV (3, 0, 0, 0, r.data.toList), .int .i64 0]) (by simp [results, Tryd.results37, go_sem, asAddr, z0, z1, z2, z3, z4, pathV]) rfl ?_
      rw [HR.out]
      exact ⟨rfl, ((((HW.out.b.setCell (by simp) _).setCell (by simp) _).setCell (by simp) _).setCell (by simp) _).setCell (by simp) _⟩
    · have HR := Lib.hid (HNO.out (fun x => he (by rw [← hT]; apply ba_inj; rw [hlo] at x; simpa using Option.some.inj x)))
      have hne3 : ¬ T.toList = s.toList := by
        rw [ByteArray.toList_eq, ByteArray.toList_eq]
        exact fun e => he (ba_inj _ _ e)
      have hne : (T.toList == s.toList) = false := beq_eq_false_iff_ne.2 hne3
      have hne2 : (T.toList != s.toList) = true := bne_iff_ne.2 hne3
      clear hlo HNO HL hT he
      go_wp2_with fail
      refine bodyPost_ret (v := .tuple #[pathV noP, .int .i64 110]) (by simp [results, Tryd.results37, go_sem, asAddr, z0, z1, z2, z3, z4, pathV, noP]) rfl ?_
      rw [HR.out]
      exact ⟨rfl, ((((HW.out.b.setCell (by simp) _).setCell (by simp) _).setCell (by simp) _).setCell (by simp) _).setCell (by simp) _⟩
end Go.Proofs.YtnfknbjdggkdpaaDoor
