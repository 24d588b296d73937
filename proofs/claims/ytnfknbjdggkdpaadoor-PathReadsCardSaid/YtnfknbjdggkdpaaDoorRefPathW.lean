/-
  The reference's Read. No statement is proved here.
-/
import Derived.Test.YtnfknbjdggkdpaaDoorRefPathPlain
namespace Go.Proofs.YtnfknbjdggkdpaaDoor
open Go.RowKit
def refV (p : PR) : Value := .agg #[.int .i64 p.1, .int .i64 p.2.1, .int .u64 p.2.2.1, .int .u32 p.2.2.2.1, .string ⟨p.2.2.2.2.toArray⟩]
def RefIs (o : Option PR) (w : World) (e : Ending) (w' : World) : Prop := e = .returned (.tuple #[refV (o.getD noP), .int .i64 (match o with | none => 110 | some _ => 0)]) ∧ Below w.heap.size w w'
/-- The result's struct, all zero, and what was before. -/
structure CellsZ (w W : World) : Prop where
  c0 : W.cell? ⟨w.heap.size, 0, none⟩ = some (.int .i64 0)
  c1 : W.cell? ⟨w.heap.size, 1, none⟩ = some (.int .i64 0)
  c2 : W.cell? ⟨w.heap.size, 2, none⟩ = some (.int .u64 0)
  c3 : W.cell? ⟨w.heap.size, 3, none⟩ = some (.int .u32 0)
  c4 : W.cell? ⟨w.heap.size, 4, none⟩ = some (.string ⟨#[]⟩)
  f0 : W.frozen? ⟨w.heap.size, 0, none⟩ = false
  f1 : W.frozen? ⟨w.heap.size, 1, none⟩ = false
  f2 : W.frozen? ⟨w.heap.size, 2, none⟩ = false
  f3 : W.frozen? ⟨w.heap.size, 3, none⟩ = false
  f4 : W.frozen? ⟨w.heap.size, 4, none⟩ = false
  b : Below w.heap.size w W
theorem CellsZ.below {w W W' : World} (h : CellsZ w W) (hb : Below W.heap.size W W') : CellsZ w W' :=
  have hlt := World.block_lt_of_cell? W _ h.c0
  ⟨(hb.cell (p := ⟨w.heap.size, 0, none⟩) hlt).trans h.c0, (hb.cell (p := ⟨w.heap.size, 1, none⟩) hlt).trans h.c1, (hb.cell (p := ⟨w.heap.size, 2, none⟩) hlt).trans h.c2, (hb.cell (p := ⟨w.heap.size, 3, none⟩) hlt).trans h.c3, (hb.cell (p := ⟨w.heap.size, 4, none⟩) hlt).trans h.c4,
   (hb.frozen (p := ⟨w.heap.size, 0, none⟩) hlt).trans h.f0, (hb.frozen (p := ⟨w.heap.size, 1, none⟩) hlt).trans h.f1, (hb.frozen (p := ⟨w.heap.size, 2, none⟩) hlt).trans h.f2, (hb.frozen (p := ⟨w.heap.size, 3, none⟩) hlt).trans h.f3, (hb.frozen (p := ⟨w.heap.size, 4, none⟩) hlt).trans h.f4, h.b.trans (hb.mono h.b.size)⟩
theorem CellsZ.new (w : World) (T : TypeId) : CellsZ w (w.alloc (.cells #[.int .i64 0, .int .i64 0, .int .u64 0, .int .u32 0, .string ⟨#[]⟩] T)) := by
  refine ⟨?_, ?_, ?_, ?_, ?_, ?_, ?_, ?_, ?_, ?_, (Below.refl _ _).alloc (Nat.le_refl _) _⟩
  all_goals first | (rw [World.cell?_alloc_mark]; rfl) | (rw [World.frozen?_alloc_mark]; rfl)
theorem start_det (s h : ByteArray) (hs : s.size ≤ 140737488355328) (hh : h.size ≤ 100) : ∃ r b, StartD s h r b ∧ ∀ W, Calls Tryd.prog 61 #[.string s, .string h] W fun e w' => e = .returned (.tuple #[.string r, .bool b]) ∧ W = w' := by
  obtain ⟨r, b, h1, h2, h3⟩ := startD_of s h
  refine ⟨r, b, h1, fun W => (starts_any s h W hs hh).mono ?_⟩
  rintro e w' ⟨h4, h5⟩
  rcases h4 with ⟨h6, h7⟩ | ⟨h6, h7⟩
  · obtain ⟨rfl, rfl⟩ := h2 h7
    exact ⟨h6, h5⟩
  · obtain ⟨rfl, rfl⟩ := h3 h7
    exact ⟨h6, h5⟩
set_option maxHeartbeats 4000000 in
set_option maxRecDepth 100000 in
theorem refPathRead_any (s : ByteArray) (w : World) (hs : s.size ≤ 140737488355328) : Calls Tryd.prog 38 #[.string s] w (RefIs (readR s.data.toList) w) := by
  obtain ⟨r1, b1, d1, p1⟩ := start_det s ⟨#[108, 111, 103, 47]⟩ hs (by decide)
  obtain ⟨r2, b2, d2, p2⟩ := start_det s ⟨#[115, 116, 97, 103, 101, 47]⟩ hs (by decide)
  obtain ⟨r3, b3, d3, p3⟩ := start_det s ⟨#[112, 97, 103, 101, 47]⟩ hs (by decide)
  obtain ⟨r4, b4, d4, p4⟩ := start_det s ⟨#[98, 108, 111, 98, 47]⟩ hs (by decide)
  obtain ⟨N1, hN1⟩ : ∃ N, N = numR' r1.data.toList := ⟨_, rfl⟩
  obtain ⟨N2, hN2⟩ : ∃ N, N = numR' r2.data.toList := ⟨_, rfl⟩
  obtain ⟨T1, hT1⟩ : ∃ T, (⟨((logO N1).getD []).toArray⟩ : ByteArray) = T := ⟨_, rfl⟩
  obtain ⟨T2, hT2⟩ : ∃ T, (⟨((stageO N2).getD []).toArray⟩ : ByteArray) = T := ⟨_, rfl⟩
  have q1 := fun W => refnumber_any r1 W (Nat.le_trans d1.1 hs)
  have q2 := fun W => refnumber_any r2 W (Nat.le_trans d2.1 hs)
  rw [← hN1] at q1
  rw [← hN2] at q2
  have l1 := fun W => refLog_any N1 W
  have l2 := fun W => refStage_any N2 W
  unfold SaidIs at l1 l2
  rw [hT1] at l1
  rw [hT2] at l2
  have no1 := log_no d1 hN1
  have no2 := stage_no d2 hN2
  have yes1 := fun h => log_yes (N := N1) d1 h
  have yes2 := fun h => stage_yes (N := N2) d2 h
  rw [hT1] at no1 yes1
  rw [hT2] at no2 yes2
  have x4 : (r4.extract 0 16).data.toList = r4.data.toList.take 16 := by simp
  have y4 : (r4.extract 17 r4.size).data.toList = r4.data.toList.drop 17 := by
    have := ba_len r4
    rw [ByteArray.data_extract, Array.toList_extract, List.extract_eq_take_drop, List.take_of_length_le (by rw [List.length_drop]; omega)]
  have m4 : (r4.extract 0 16).size ≤ maxLen := by unfold maxLen; have := d4.1; rw [ByteArray.size_extract]; omega
  have m5 : (r4.extract 17 r4.size).size ≤ 140737488355328 := by have := d4.1; rw [ByteArray.size_extract]; omega
  have q3 := fun W => refRead_any (r4.extract 0 16) W m4
  have q4 := fun W => refnumber_any (r4.extract 17 r4.size) W m5
  rw [x4] at q3
  rw [y4] at q4
  obtain ⟨N4, hN4⟩ : ∃ N, N = numR' (r4.data.toList.drop 17) := ⟨_, rfl⟩
  obtain ⟨V, hV⟩ : ∃ V, hexVal (r4.data.toList.take 16) = V := ⟨_, rfl⟩
  obtain ⟨E, hE⟩ : ∃ E, hexErr (r4.data.toList.take 16) = E := ⟨_, rfl⟩
  have hVl : V < 18446744073709551616 := by rw [← hV]; exact hexVal_lt _
  obtain ⟨T4, hT4⟩ : ∃ T, (⟨((blobO V N4.toNat).getD []).toArray⟩ : ByteArray) = T := ⟨_, rfl⟩
  rw [hV, hE] at q3
  rw [← hN4] at q4
  have no4 := blob_no d4
  rw [hV, hE] at no4
  have NO4 : Hid (17 < r4.size → ¬ (E = 0 ∧ 0 < N4 ∧ N4 < 4294967296 ∧ T4 = s) → ∀ x n, ¬ BlobN s.data.toList x n) := Lib.hid (fun hz h => no4 (fun _ _ he N hN h0 h1 ht => by
    have hNN : N = N4 := hN.trans hN4.symm
    subst hNN
    exact h ⟨he, h0, h1, hT4.symm.trans ht⟩))
  have HL4 : Hid (∀ (W : World) (k : Nat), N4 = (k : Int) → k < 4294967296 → Calls Tryd.prog 34 #[.int .u64 V, .int .u32 k] W fun e w' => e = .returned (.string T4) ∧ Below W.heap.size W w') := Lib.hid (fun W k hk hl => by
    have := refBlob_any V k W hVl hl
    unfold SaidIs at this
    rw [← hT4, hk, Int.toNat_natCast]
    exact this)
  have YES4 : Hid (b4 = true → ∀ k : Nat, N4 = (k : Int) → k < 4294967296 → T4 = s → readR s.data.toList = some (2, 0, V, k, [])) := Lib.hid (fun hb k hk hl ht => by
    refine blob_yes d4 hb hVl hl ?_
    rw [← ht, ← hT4, hk, Int.toNat_natCast])
  have HQ3 := Lib.hid q3
  have HQ4 := Lib.hid q4
  clear q3 q4 no4 hT4 hVl hE hV hN4 m4 m5 x4 y4
  have HI3 := Lib.hid (fun W => refIs_any r3 W (Nat.le_trans d3.1 hs))
  have HP1 := Lib.hid p1
  have HP2 := Lib.hid p2
  have HP3 := Lib.hid p3
  have HP4 := Lib.hid p4
  have HQ1 := Lib.hid q1
  have HQ2 := Lib.hid q2
  have HL1 := Lib.hid l1
  have HL2 := Lib.hid l2
  have NO1 := Lib.hid no1
  have NO2 := Lib.hid no2
  have YES1 := Lib.hid yes1
  have YES2 := Lib.hid yes2
  have D3 := Lib.hid d3
  have D4 := Lib.hid d4
  clear p1 p2 p3 p4 q1 q2 l1 l2 no1 no2 yes1 yes2 d1 d2 d3 d4 hT1 hT2 hN1 hN2
  go_enter Tryd.func38, Tryd.ntmps38
  go_upto_region 1 with fail
  obtain ⟨W, hW⟩ : ∃ W, w.alloc (.cells #[.int .i64 0, .int .i64 0, .int .u64 0, .int .u32 0, .string ⟨#[]⟩] 64) = W := ⟨_, rfl⟩
  have hz := CellsZ.new w 64
  rw [hW] at hz
  rw [hW]
  have HZ := Lib.hid hz
  clear hz hW
  go_wp2_with fail
  refine (HP1.out _).mono ?_; rintro e w' ⟨rfl, rfl⟩
  go_wp2_with fail
  refine (HQ1.out _).mono ?_; rintro e w' ⟨rfl, rfl⟩
  go_upto_region 3 with fail
  go_cut [26] from 16 to 25 (fun c wc => ∃ B, c = .bool B ∧ Hid (B = true ↔ (b1 = true ∧ 0 < N1 ∧ T1 = s)) ∧ Hid (CellsZ w wc))
  case first =>
    cases b1 with
    | false =>
      go_wp2_with fail
      go_meet
      exact ⟨false, rfl, Lib.hid (by simp), HZ⟩
    | true =>
      by_cases hn : 0 < N1
      · have HN := Lib.hid hn
        go_wp2_with fail
        refine (HL1.out _).mono ?_; rintro e w3 ⟨rfl, hb⟩
        have HZ3 := Lib.hid (HZ.out.below hb)
        clear hb
        go_wp2_with fail
        go_meet
        exact ⟨_, rfl, Lib.hid (by have := HN.out; simp [ByteArray.toList_eq]; exact ⟨fun h => ⟨this, ba_inj _ _ (by simpa using h)⟩, fun h => by rw [h.2]⟩), HZ3⟩
      · have HN := Lib.hid hn
        go_wp2_with fail
        go_meet
        exact ⟨false, rfl, Lib.hid (by have := HN.out; simp; omega), HZ⟩
  case rest =>
    obtain ⟨B, rfl, hB, HZa⟩ := hcut
    clear HZ
    cases B with
    | true =>
      obtain ⟨hb1, _, hT⟩ := hB.out.1 rfl
      obtain ⟨hr, h0⟩ := YES1.out hb1 hT
      obtain ⟨k, rfl⟩ := Int.eq_ofNat_of_zero_le h0
      rw [Int.toNat_natCast] at hr
      have HR := Lib.hid hr
      clear hr hb1 hT h0 hB YES1
      obtain ⟨c0, c1, c2, c3, c4, f0, f1, f2, f3, f4, _⟩ := HZa.out
      go_wp2_with fail
      refine bodyPost_ret (v := .tuple #[refV (1, k, 0, 0, []), .int .i64 0]) (by simp [results, Tryd.results38, go_sem, asAddr, c0, c1, c2, c3, c4, refV]) rfl ?_
      rw [HR.out]
      exact ⟨rfl, ((((HZa.out.b.setCell (by simp) _).setCell (by simp) _).setCell (by simp) _).setCell (by simp) _).setCell (by simp) _⟩
    | false =>
      have G1 := Lib.hid (NO1.out (fun a b c => by have := hB.out.2 ⟨a, b, c⟩; cases this))
      clear hB NO1 YES1
      go_wp2_with fail
      refine (HP2.out _).mono ?_; rintro e w' ⟨rfl, rfl⟩
      go_wp2_with fail
      refine (HQ2.out _).mono ?_; rintro e w' ⟨rfl, rfl⟩
      go_upto_region 7 with fail
      go_cut [46] from 36 to 45 (fun c wc => ∃ B, c = .bool B ∧ Hid (B = true ↔ (b2 = true ∧ 0 < N2 ∧ T2 = s)) ∧ Hid (CellsZ w wc))
      case first =>
        cases b2 with
        | false =>
          go_wp2_with fail
          go_meet
          exact ⟨false, rfl, Lib.hid (by simp), HZa⟩
        | true =>
          by_cases hn : 0 < N2
          · have HN := Lib.hid hn
            go_wp2_with fail
            refine (HL2.out _).mono ?_; rintro e w3 ⟨rfl, hb⟩
            have HZ3 := Lib.hid (HZa.out.below hb)
            clear hb
            go_wp2_with fail
            go_meet
            exact ⟨_, rfl, Lib.hid (by have := HN.out; simp [ByteArray.toList_eq]; exact ⟨fun h => ⟨this, ba_inj _ _ (by simpa using h)⟩, fun h => by rw [h.2]⟩), HZ3⟩
          · have HN := Lib.hid hn
            go_wp2_with fail
            go_meet
            exact ⟨false, rfl, Lib.hid (by have := HN.out; simp; omega), HZa⟩
      case rest =>
        obtain ⟨B, rfl, hB, HZb⟩ := hcut
        clear HZa
        cases B with
        | true =>
          obtain ⟨hb1, _, hT⟩ := hB.out.1 rfl
          obtain ⟨hr, h0⟩ := YES2.out hb1 hT
          obtain ⟨k, rfl⟩ := Int.eq_ofNat_of_zero_le h0
          rw [Int.toNat_natCast] at hr
          have HR := Lib.hid hr
          clear hr hb1 hT h0 hB YES2
          obtain ⟨c0, c1, c2, c3, c4, f0, f1, f2, f3, f4, _⟩ := HZb.out
          go_wp2_with fail
          refine bodyPost_ret (v := .tuple #[refV (4, k, 0, 0, []), .int .i64 0]) (by simp [results, Tryd.results38, go_sem, asAddr, c0, c1, c2, c3, c4, refV]) rfl ?_
          rw [HR.out]
          exact ⟨rfl, ((((HZb.out.b.setCell (by simp) _).setCell (by simp) _).setCell (by simp) _).setCell (by simp) _).setCell (by simp) _⟩
        | false =>
          have G2 := Lib.hid (NO2.out (fun a b c => by have := hB.out.2 ⟨a, b, c⟩; cases this))
          clear hB NO2 YES2
          go_wp2_with fail
          refine (HP3.out _).mono ?_; rintro e w' ⟨rfl, rfl⟩
          go_upto_region 10 with fail
          go_cut [58] from 54 to 57 (fun c wc => ∃ B, c = .bool B ∧ Hid (B = true ↔ (b3 = true ∧ isN r3.data.toList = true)) ∧ Hid (CellsZ w wc))
          case first =>
            cases b3 with
            | false =>
              go_wp2_with fail
              go_meet
              exact ⟨false, rfl, Lib.hid (by simp), HZb⟩
            | true =>
              go_wp2_with fail
              refine (HI3.out _).mono ?_; rintro e w3 ⟨rfl, hb⟩
              have HZ3 := Lib.hid (HZb.out.below hb)
              clear hb
              go_wp2_with fail
              go_meet
              exact ⟨_, rfl, Lib.hid (by simp), HZ3⟩
          case rest =>
            obtain ⟨B, rfl, hB, HZc⟩ := hcut
            clear HZb
            cases B with
            | true =>
              obtain ⟨hb1, hI⟩ := hB.out.1 rfl
              have HR := Lib.hid (page_yes D3.out hb1 hI)
              clear hb1 hI hB
              obtain ⟨c0, c1, c2, c3, c4, f0, f1, f2, f3, f4, _⟩ := HZc.out
              go_wp2_with fail
              refine bodyPost_ret (v := .tuple #[.agg #[.int .i64 3, .int .i64 0, .int .u64 0, .int .u32 0, .string r3], .int .i64 0]) (by simp [results, Tryd.results38, go_sem, asAddr, c0, c1, c2, c3, c4]) rfl ?_
              rw [HR.out]
              exact ⟨rfl, ((((HZc.out.b.setCell (by simp) _).setCell (by simp) _).setCell (by simp) _).setCell (by simp) _).setCell (by simp) _⟩
            | false =>
              have G3 := Lib.hid (page_no D3.out (fun a => by
                cases hI : isN r3.data.toList with
                | false => rfl
                | true => have := hB.out.2 ⟨a, hI⟩; cases this))
              clear hB
              go_wp2_with fail
              refine (HP4.out _).mono ?_; rintro e w' ⟨rfl, rfl⟩
              go_upto_region 13 with fail
              go_cut [71] from 66 to 70 (fun c wc => ∃ B, c = .bool B ∧ Hid (B = true ↔ (b4 = true ∧ 17 < r4.size)) ∧ Hid (CellsZ w wc))
              case first =>
                cases b4 with
                | false =>
                  go_wp2_with fail
                  go_meet
                  exact ⟨false, rfl, Lib.hid (by simp), HZc⟩
                | true =>
                  go_wp2_with fail
                  go_meet
                  exact ⟨_, rfl, Lib.hid (by simp; try omega), HZc⟩
              case rest =>
                obtain ⟨B, rfl, hB, HZd⟩ := hcut
                clear HZc
                cases B with
                | false =>
                  have HR := Lib.hid (readR_none (G1.out) (G2.out) (G3.out) (blob_no D4.out (fun a b => by have := hB.out.2 ⟨a, b⟩; cases this)))
                  clear hB G1 G2 G3
                  obtain ⟨c0, c1, c2, c3, c4, f0, f1, f2, f3, f4, _⟩ := HZd.out
                  go_wp2_with fail
                  refine bodyPost_ret (v := .tuple #[refV noP, .int .i64 110]) (by simp [results, Tryd.results38, go_sem, asAddr, c0, c1, c2, c3, c4, refV, noP]) rfl ?_
                  rw [HR.out]
                  exact ⟨rfl, ((((HZd.out.b.setCell (by simp) _).setCell (by simp) _).setCell (by simp) _).setCell (by simp) _).setCell (by simp) _⟩
                | true =>
                  obtain ⟨hb1, hsz⟩ := hB.out.1 rfl
                  have HB1 := Lib.hid hb1
                  clear hb1 hB
                  have HSZ := Lib.hid hsz
                  go_wp2_with fail
                  refine (HQ3.out _).mono ?_; rintro e w' ⟨rfl, rfl⟩
                  go_wp2_with fail
                  refine (HQ4.out _).mono ?_; rintro e w' ⟨rfl, rfl⟩
                  clear hsz
                  go_upto_region 16 with fail
                  go_cut [98] from 81 to 97 (fun c wc => ∃ B, c = .bool B ∧ Hid (B = true ↔ (E = 0 ∧ 0 < N4 ∧ N4 < 4294967296 ∧ T4 = s)) ∧ Hid (CellsZ w wc))
                  case first =>
                    by_cases he : E = 0
                    · have HE := Lib.hid he
                      subst he
                      by_cases hn : 0 < N4
                      · by_cases hl : N4 < 4294967296
                        · obtain ⟨k, hk⟩ := Int.eq_ofNat_of_zero_le (show 0 ≤ N4 by omega)
                          have hkl : k < 4294967296 := by omega
                          have HC4 := Lib.hid (fun W => HL4.out W k hk hkl)
                          have hw := u32wrap k hkl
                          subst hk
                          have hn2 : 0 < k := by omega
                          go_wp2_with fail
                          refine (HC4.out _).mono ?_; rintro e w3 ⟨rfl, hb⟩
                          have HZ3 := Lib.hid (HZd.out.below hb)
                          clear hb
                          go_wp2_with fail
                          go_meet
                          exact ⟨_, rfl, Lib.hid (by simp [ByteArray.toList_eq]; exact ⟨fun h => ⟨by omega, by omega, ba_inj _ _ (by simpa using h)⟩, fun h => by rw [h.2.2]⟩), HZ3⟩
                        · go_wp2_with fail
                          go_meet
                          exact ⟨false, rfl, Lib.hid (by simp; omega), HZd⟩
                      · go_wp2_with fail
                        go_meet
                        exact ⟨false, rfl, Lib.hid (by simp; omega), HZd⟩
                    · have HE := Lib.hid he
                      go_wp2_with fail
                      go_meet
                      exact ⟨false, rfl, Lib.hid (by have := HE.out; simp; omega), HZd⟩
                  case rest =>
                    obtain ⟨B, rfl, hB, HZe⟩ := hcut
                    clear HZd
                    cases B with
                    | true =>
                      obtain ⟨_, hn, hl, ht⟩ := hB.out.1 rfl
                      obtain ⟨k, hk⟩ := Int.eq_ofNat_of_zero_le (show 0 ≤ N4 by omega)
                      have hkl : k < 4294967296 := by omega
                      have HR := Lib.hid (YES4.out HB1.out k hk hkl ht)
                      have hw := u32wrap k hkl
                      clear hB ht HL4 YES4 NO4 hn hl
                      subst hk
                      obtain ⟨c0, c1, c2, c3, c4, f0, f1, f2, f3, f4, _⟩ := HZe.out
                      go_wp2_with fail
                      refine bodyPost_ret (v := .tuple #[refV (2, 0, V, k, []), .int .i64 0]) (by simp [results, Tryd.results38, go_sem, asAddr, c0, c1, c2, c3, c4, refV]) rfl ?_
                      rw [HR.out]
                      exact ⟨rfl, ((((HZe.out.b.setCell (by simp) _).setCell (by simp) _).setCell (by simp) _).setCell (by simp) _).setCell (by simp) _⟩
                    | false =>
                      have HR := Lib.hid (readR_none (G1.out) (G2.out) (G3.out) (NO4.out HSZ.out (fun h => by have := hB.out.2 h; cases this)))
                      clear hB G1 G2 G3 NO4
                      obtain ⟨c0, c1, c2, c3, c4, f0, f1, f2, f3, f4, _⟩ := HZe.out
                      go_wp2_with fail
                      refine bodyPost_ret (v := .tuple #[refV noP, .int .i64 110]) (by simp [results, Tryd.results38, go_sem, asAddr, c0, c1, c2, c3, c4, refV, noP]) rfl ?_
                      rw [HR.out]
                      exact ⟨rfl, ((((HZe.out.b.setCell (by simp) _).setCell (by simp) _).setCell (by simp) _).setCell (by simp) _).setCell (by simp) _⟩
end Go.Proofs.YtnfknbjdggkdpaaDoor
