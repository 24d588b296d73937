/-
  path.Read at a blob's name. No statement is proved here.
-/
import Derived.Test.YtnfknbjdggkdpaaDoorPathR
namespace Go.Proofs.YtnfknbjdggkdpaaDoor
open Go.RowKit
theorem set_cell5 {W : World} {b i : Nat} {u v : Value} (h : W.cell? ⟨b, i, none⟩ = some u) : (W.setCell ⟨b, i, none⟩ v).cell? ⟨b, i, none⟩ = some v := World.cell?_setCell_same _ _ _ h
theorem set_other {W : World} {b i c j : Nat} {v : Value} (h : ¬ (b = c ∧ i = j)) : (W.setCell ⟨b, i, none⟩ v).cell? ⟨c, j, none⟩ = W.cell? ⟨c, j, none⟩ :=
  World.cell?_setCell_other _ _ _ _ (by intro e; injection e with e1 e2; exact h ⟨e1, e2⟩)
theorem Two.set0 {w W : World} {k n s p : Int} {m : ByteArray} (h : Two w W k n s p m) (k' : Int) : Two w (W.setCell ⟨w.heap.size + 1, 0, none⟩ (.int .u8 k')) k' n s p m := by
  obtain ⟨⟨z0, z1, z2, z3, z4, y0, y1, y2, y3, y4⟩, ⟨q0, q1, q2, q3, q4, p0, p1, p2, p3, p4⟩, hb⟩ := h
  refine ⟨⟨?_, ?_, ?_, ?_, ?_, ?_, ?_, ?_, ?_, ?_⟩, ⟨set_cell5 q0, ?_, ?_, ?_, ?_, ?_, ?_, ?_, ?_, ?_⟩, hb.setCell (by simp) _⟩
  all_goals first | (rw [set_other (by omega)]; assumption) | (rw [World.frozen?_setCell]; assumption)
theorem Two.set1 {w W : World} {k n s p : Int} {m : ByteArray} (h : Two w W k n s p m) (n' : Int) : Two w (W.setCell ⟨w.heap.size + 1, 1, none⟩ (.int .i64 n')) k n' s p m := by
  obtain ⟨⟨z0, z1, z2, z3, z4, y0, y1, y2, y3, y4⟩, ⟨q0, q1, q2, q3, q4, p0, p1, p2, p3, p4⟩, hb⟩ := h
  refine ⟨⟨?_, ?_, ?_, ?_, ?_, ?_, ?_, ?_, ?_, ?_⟩, ⟨?_, set_cell5 q1, ?_, ?_, ?_, ?_, ?_, ?_, ?_, ?_⟩, hb.setCell (by simp) _⟩
  all_goals first | (rw [set_other (by omega)]; assumption) | (rw [World.frozen?_setCell]; assumption)
theorem Two.set2 {w W : World} {k n s p : Int} {m : ByteArray} (h : Two w W k n s p m) (s' : Int) : Two w (W.setCell ⟨w.heap.size + 1, 2, none⟩ (.int .u64 s')) k n s' p m := by
  obtain ⟨⟨z0, z1, z2, z3, z4, y0, y1, y2, y3, y4⟩, ⟨q0, q1, q2, q3, q4, p0, p1, p2, p3, p4⟩, hb⟩ := h
  refine ⟨⟨?_, ?_, ?_, ?_, ?_, ?_, ?_, ?_, ?_, ?_⟩, ⟨?_, ?_, set_cell5 q2, ?_, ?_, ?_, ?_, ?_, ?_, ?_⟩, hb.setCell (by simp) _⟩
  all_goals first | (rw [set_other (by omega)]; assumption) | (rw [World.frozen?_setCell]; assumption)
theorem Two.set3 {w W : World} {k n s p : Int} {m : ByteArray} (h : Two w W k n s p m) (p' : Int) : Two w (W.setCell ⟨w.heap.size + 1, 3, none⟩ (.int .u32 p')) k n s p' m := by
  obtain ⟨⟨z0, z1, z2, z3, z4, y0, y1, y2, y3, y4⟩, ⟨q0, q1, q2, q3, q4, p0, p1, p2, p3, p4⟩, hb⟩ := h
  refine ⟨⟨?_, ?_, ?_, ?_, ?_, ?_, ?_, ?_, ?_, ?_⟩, ⟨?_, ?_, ?_, set_cell5 q3, ?_, ?_, ?_, ?_, ?_, ?_⟩, hb.setCell (by simp) _⟩
  all_goals first | (rw [set_other (by omega)]; assumption) | (rw [World.frozen?_setCell]; assumption)
theorem Two.set4 {w W : World} {k n s p : Int} {m : ByteArray} (h : Two w W k n s p m) (m' : ByteArray) : Two w (W.setCell ⟨w.heap.size + 1, 4, none⟩ (.string m')) k n s p m' := by
  obtain ⟨⟨z0, z1, z2, z3, z4, y0, y1, y2, y3, y4⟩, ⟨q0, q1, q2, q3, q4, p0, p1, p2, p3, p4⟩, hb⟩ := h
  refine ⟨⟨?_, ?_, ?_, ?_, ?_, ?_, ?_, ?_, ?_, ?_⟩, ⟨?_, ?_, ?_, ?_, set_cell5 q4, ?_, ?_, ?_, ?_, ?_⟩, hb.setCell (by simp) _⟩
  all_goals first | (rw [set_other (by omega)]; assumption) | (rw [World.frozen?_setCell]; assumption)
theorem u32wrap (k : Nat) (h : k < 4294967296) : IntKind.u32.wrap (k : Int) = (k : Int) := by rw [IntKind.wrap_u32]; omega
set_option maxHeartbeats 4000000 in
set_option maxRecDepth 100000 in
theorem Read_blob (s r x nn : ByteArray) (f f2 : Bool) (w : World) (hs : s.size ≤ 140737488355328) (hT : TabH w) (hc : IsCut s 47 ⟨#[98, 108, 111, 98]⟩ r f) (hc2 : IsCut r 45 x nn f2) (hx : x.size ≤ 140737488355328) (hnn : nn.size ≤ 140737488355328)
    (hC : ∀ W, Calls Tryd.prog 58 #[.string s, .string ⟨#[47]⟩] W fun e w' => e = .returned (.tuple #[.string ⟨#[98, 108, 111, 98]⟩, .string r, .bool f]) ∧ ∃ n, w' = W.drewN n)
    (hC2 : ∀ W, Calls Tryd.prog 58 #[.string r, .string ⟨#[45]⟩] W fun e w' => e = .returned (.tuple #[.string x, .string nn, .bool f2]) ∧ ∃ n, w' = W.drewN n) :
    Calls Tryd.prog 37 #[.string s] w (ReadIs (readR s.data.toList) w) := by
  obtain ⟨n, hn⟩ : ∃ n, numP 0 nn.data.toList = n := ⟨_, rfl⟩
  have hnb : n ≤ 10995116277769 := by rw [← hn]; exact (numP_val _ 0 (by omega)).2.2
  have hN := fun W => number_any nn W hnn
  rw [hn] at hN
  have hno := none_blob hc rfl hc2
  rw [hn] at hno
  obtain ⟨v, hv⟩ : ∃ v, hexVal x.data.toList = v := ⟨_, rfl⟩
  have hv64 : v < 18446744073709551616 := by rw [← hv]; exact hexVal_lt _
  have hRd := fun W => Read_any x W (by unfold maxLen; omega)
  rw [hv] at hno hRd
  obtain ⟨ee, hee⟩ : ∃ ee, hexErr x.data.toList = ee := ⟨_, rfl⟩
  rw [hee] at hRd
  have HC := Lib.hid hC
  have HC2 := Lib.hid hC2
  have HN := Lib.hid hN
  have HT := Lib.hid hT
  have HRd := Lib.hid hRd
  by_cases hbig : n < 4294967296
  · have HNO := Lib.hid (fun h => hno (fun _ => h))
    have hd : decide ((4294967296 : Int) ≤ (n : Int)) = false := decide_eq_false (by omega)
    have hwr := u32wrap n hbig
    have HB := Lib.hid (fun W hT => Blob_any v n W hv64 hbig hT)
    have HV : Hid (v < 18446744073709551616 ∧ n < 4294967296) := Lib.hid ⟨hv64, hbig⟩
    clear hC hC2 hN hT hno hn hc hc2 hRd hv hee hv64 hbig hnb
    go_enter Tryd.func37, Tryd.ntmps37
    go_wp2_with fail
    refine (HC.out _).mono ?_; rintro e w1 ⟨rfl, q, rfl⟩
    go_wp2_with fail
    refine (HC2.out _).mono ?_; rintro e w1 ⟨rfl, q2, rfl⟩
    have h2 := (two_new w 59 q 0 0 0 0 ⟨#[]⟩).below (below_drewN (Below.refl _ _) q2)
    obtain ⟨W, hW⟩ : ∃ W, (((w.alloc (.cells #[.int .u8 0, .int .i64 0, .int .u64 0, .int .u32 0, .string ⟨#[]⟩] 59)).drewN q).alloc (.cells #[.int .u8 0, .int .i64 0, .int .u64 0, .int .u32 0, .string ⟨#[]⟩] 59)).drewN q2 = W := ⟨_, rfl⟩
    rw [hW] at h2 ⊢
    have HW := Lib.hid h2
    clear h2
    clear hW
    go_wp2_with fail
    refine (HN.out _).mono ?_; rintro e w' ⟨rfl, rfl⟩
    obtain ⟨q0, q1, q2', q3, q4, p0, p1, p2, p3, p4⟩ := HW.out.q
    go_upto_region 21 with fail
    have HW1 := Lib.hid (((((HW.out.set0 2).set1 0).set2 0).set3 0).set4 ⟨#[]⟩)
    obtain ⟨W1, hW1⟩ : ∃ W1, ((((W.setCell ⟨w.heap.size + 1, 0, none⟩ (.int .u8 2)).setCell ⟨w.heap.size + 1, 1, none⟩ (.int .i64 0)).setCell ⟨w.heap.size + 1, 2, none⟩ (.int .u64 0)).setCell ⟨w.heap.size + 1, 3, none⟩ (.int .u32 0)).setCell ⟨w.heap.size + 1, 4, none⟩ (.string ⟨#[]⟩) = W1 := ⟨_, rfl⟩
    rw [hW1] at HW1 ⊢
    clear hW1 q0 q1 q2' q3 q4 p0 p1 p2 p3 p4 HW
    obtain ⟨_, _, q2', _, _, _, _, p2, _, _⟩ := HW1.out.q
    go_upto_region 22 with ((go_at_call 60; refine (HRd.out _).mono ?_; rintro e w' ⟨rfl, rfl⟩))
    have HW2 := Lib.hid (HW1.out.set2 v)
    obtain ⟨W2, hW2⟩ : ∃ W2, W1.setCell ⟨w.heap.size + 1, 2, none⟩ (.int .u64 v) = W2 := ⟨_, rfl⟩
    rw [hW2] at HW2 ⊢
    clear hW2 q2' p2 HW1
    obtain ⟨_, _, _, q3, _, _, _, _, p3, _⟩ := HW2.out.q
    go_upto_region 23 with fail
    have HW3 := Lib.hid (HW2.out.set3 n)
    obtain ⟨W3, hW3⟩ : ∃ W3, W2.setCell ⟨w.heap.size + 1, 3, none⟩ (.int .u32 n) = W3 := ⟨_, rfl⟩
    rw [hW3] at HW3 ⊢
    clear hW3 q3 p3 HW2
    obtain ⟨_, _, q2', q3, _, _, _, _, _, _⟩ := HW3.out.q
    go_wp2_with fail
    refine (HB.out _ (HT.out.below HW3.out.b)).mono ?_; rintro e w4 ⟨rfl, hb4⟩
    have HW4 := Lib.hid (HW3.out.below hb4)
    clear hb4 q2' q3 HW3
    cases hlo : blobO v n with
    | none =>
      have HR := Lib.hid (HNO.out (by rw [hlo]; simp))
      obtain ⟨z0, z1, z2, z3, z4, y0, y1, y2, y3, y4⟩ := HW4.out.z
      clear hlo HNO
      simp only [Option.getD_none]
      go_wp2_with fail
      refine bodyPost_ret (v := .tuple #[pathV noP, .int .i64 110]) (by simp [results, Tryd.results37, go_sem, asAddr, z0, z1, z2, z3, z4, pathV, noP]) rfl ?_
      rw [HR.out]
      exact ⟨rfl, ((((HW4.out.b.setCell (by simp) _).setCell (by simp) _).setCell (by simp) _).setCell (by simp) _).setCell (by simp) _⟩
    | some l =>
      obtain ⟨T, hT⟩ : ∃ T : ByteArray, (⟨l.toArray⟩ : ByteArray) = T := ⟨_, rfl⟩
      simp only [Option.getD_some]
      rw [hT]
      obtain ⟨z0, z1, z2, z3, z4, y0, y1, y2, y3, y4⟩ := HW4.out.z
      by_cases he : T = s
      · have HR : Hid (readR s.data.toList = some (2, 0, v, n, [])) := Lib.hid (some_blob HV.out.1 HV.out.2 (by rw [hlo, ← he, ← hT]))
        obtain ⟨q0, q1, q2', q3, q4, _, _, _, _, _⟩ := HW4.out.q
        subst he
        clear hlo HNO hT
        go_wp2_with fail
        refine bodyPost_ret (v := .tuple #[pathV (2, 0, v, n, []), .int .i64 0]) (by simp [results, Tryd.results37, go_sem, asAddr, z0, z1, z2, z3, z4, pathV]) rfl ?_
        rw [HR.out]
        exact ⟨rfl, ((((HW4.out.b.setCell (by simp) _).setCell (by simp) _).setCell (by simp) _).setCell (by simp) _).setCell (by simp) _⟩
      · have HR := Lib.hid (HNO.out (fun x => he (by rw [← hT]; apply ba_inj; rw [hlo] at x; simpa using Option.some.inj x)))
        have hne3 : ¬ T.toList = s.toList := by
          rw [ByteArray.toList_eq, ByteArray.toList_eq]
          exact fun e => he (ba_inj _ _ e)
        have hne : (T.toList == s.toList) = false := beq_eq_false_iff_ne.2 hne3
        have hne2 : (T.toList != s.toList) = true := bne_iff_ne.2 hne3
        clear hlo HNO hT he
        go_wp2_with fail
        refine bodyPost_ret (v := .tuple #[pathV noP, .int .i64 110]) (by simp [results, Tryd.results37, go_sem, asAddr, z0, z1, z2, z3, z4, pathV, noP]) rfl ?_
        rw [HR.out]
        exact ⟨rfl, ((((HW4.out.b.setCell (by simp) _).setCell (by simp) _).setCell (by simp) _).setCell (by simp) _).setCell (by simp) _⟩
  · have HR := Lib.hid (hno (fun h => absurd h hbig))
    have hd : decide ((4294967296 : Int) ≤ (n : Int)) = true := decide_eq_true (by omega)
    clear hC hC2 hN hT hno hn hc hc2 hRd hv hee hv64 hbig hnb
    go_enter Tryd.func37, Tryd.ntmps37
    go_wp2_with fail
    refine (HC.out _).mono ?_; rintro e w1 ⟨rfl, q, rfl⟩
    go_wp2_with fail
    refine (HC2.out _).mono ?_; rintro e w1 ⟨rfl, q2, rfl⟩
    have h2 := (two_new w 59 q 0 0 0 0 ⟨#[]⟩).below (below_drewN (Below.refl _ _) q2)
    obtain ⟨W, hW⟩ : ∃ W, (((w.alloc (.cells #[.int .u8 0, .int .i64 0, .int .u64 0, .int .u32 0, .string ⟨#[]⟩] 59)).drewN q).alloc (.cells #[.int .u8 0, .int .i64 0, .int .u64 0, .int .u32 0, .string ⟨#[]⟩] 59)).drewN q2 = W := ⟨_, rfl⟩
    rw [hW] at h2 ⊢
    have HW4 := Lib.hid h2
    clear h2 hW
    go_wp2_with fail
    refine (HN.out _).mono ?_; rintro e w' ⟨rfl, rfl⟩
    obtain ⟨z0, z1, z2, z3, z4, y0, y1, y2, y3, y4⟩ := HW4.out.z
    go_wp2_with fail
    refine bodyPost_ret (v := .tuple #[pathV noP, .int .i64 110]) (by simp [results, Tryd.results37, go_sem, asAddr, z0, z1, z2, z3, z4, pathV, noP]) rfl ?_
    rw [HR.out]
    exact ⟨rfl, ((((HW4.out.b.setCell (by simp) _).setCell (by simp) _).setCell (by simp) _).setCell (by simp) _).setCell (by simp) _⟩
end Go.Proofs.YtnfknbjdggkdpaaDoor
