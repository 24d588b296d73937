/-
  'yanklinelaw11.PathBack': the walk. No statement is proved here.
-/
import Derived.Test.YtnfknbjdggkdpaaDoorPathBackPlain
import Derived.Laws.StructEq
namespace Go.Proofs.YtnfknbjdggkdpaaDoor
open Go.RowKit
abbrev AggP (k n s p : Int) (m : ByteArray) : Value := .agg #[.int .u8 k, .int .i64 n, .int .u64 s, .int .u32 p, .string m]
def GotA (v : Value) (w : World) (e : Ending) (w' : World) : Prop := e = .returned (.tuple #[v, .int .i64 0]) ∧ Below w.heap.size w w'
/-- A made name, and what it says when it is read. -/
def PackB (o : Option (List UInt8)) (v : Value) : Prop := ∃ (S : ByteArray) (E : Int), (∀ F args w, Calls Tryd.prog F args w (MadeIs o w) → Calls Tryd.prog F args w (MadeA S E w)) ∧ (∀ W, TabH W → E = 0 → Calls Tryd.prog 37 #[.string S] W (GotA v W)) ∧ (E = 0 → o = some S.data.toList)
theorem packB (o : Option (List UInt8)) (r : PR) (v : Value) (hv : ∀ l, o = some l → pathV r = v) (ho : ∀ l, o = some l → readR l = some r) (hl : ∀ l, o = some l → l.length ≤ 140737488355328) : PackB o v := by
  cases o with
  | none => exact ⟨_, _, fun _ _ _ h => h, fun _ _ h => absurd h (by decide), fun h => absurd h (by decide)⟩
  | some l =>
    refine ⟨_, _, fun _ _ _ h => h, fun W hT _ => ?_, fun _ => rfl⟩
    have hr := ho l rfl
    have hs : (⟨l.toArray⟩ : ByteArray).size ≤ 140737488355328 := hl l rfl
    have := pRead_any ⟨l.toArray⟩ W hs hT
    rw [show (⟨l.toArray⟩ : ByteArray).data.toList = l from rfl, hr] at this
    rw [← hv l rfl]
    exact this
theorem bl_eq : ∀ (x y : List UInt8), Op.bytesLess x y = decide (x < y)
  | [], [] => by simp [Op.bytesLess]
  | _ :: _, [] => by simp [Op.bytesLess]
  | [], _ :: _ => by simp [Op.bytesLess]
  | a :: x, b :: y => by
    rw [Op.bytesLess, bl_eq x y]
    by_cases h : a < b
    · simp [h, List.cons_lt_cons_iff]
    · by_cases e : a = b
      · simp [e]
      · simp [h, e, List.cons_lt_cons_iff]
theorem logO_some (n : Int) (l : List UInt8) (h : logO n = some l) : 1 ≤ n ∧ n ≤ 99999999 ∧ l = logT n.toNat := by
  unfold logO at h
  split at h
  · next hh => cases h; exact ⟨hh.1, hh.2, rfl⟩
  · cases h
theorem stageO_some (n : Int) (l : List UInt8) (h : stageO n = some l) : 1 ≤ n ∧ n ≤ 2147483647 ∧ l = stageT n.toNat := by
  unfold stageO at h
  split at h
  · next hh => cases h; exact ⟨hh.1, hh.2, rfl⟩
  · cases h
theorem log_less {n m : Int} {S T : ByteArray} (h1 : logO n = some S.data.toList) (h2 : logO m = some T.data.toList) : Op.bytesLess S.toList T.toList = decide (n < m) := by
  obtain ⟨a1, a2, a3⟩ := logO_some _ _ h1
  obtain ⟨b1, b2, b3⟩ := logO_some _ _ h2
  rw [bl_eq, ByteArray.toList_eq, ByteArray.toList_eq, a3, b3]
  have := logT_lt n.toNat m.toNat (by omega) (by omega)
  by_cases h : n < m
  · rw [decide_eq_true h, decide_eq_true (this.2 (by omega))]
  · rw [decide_eq_false h, decide_eq_false (fun x => h (by have := this.1 x; omega))]
theorem packLog (n : Int) : PackB (logO n) (AggP 1 n 0 0 ⟨#[]⟩) := packB (logO n) (1, n.toNat, 0, 0, []) (AggP 1 n 0 0 ⟨#[]⟩) (fun l h => by
    have h1 := (logO_some n l h).1
    show AggP 1 (n.toNat : Int) 0 0 ⟨#[]⟩ = _
    rw [Int.toNat_of_nonneg (show 0 ≤ n by omega)]) (fun l h => by
    have h1 := (logO_some n l h).1
    rw [← Int.toNat_of_nonneg (show 0 ≤ n by omega)] at h
    exact some_log h) (fun l h => by
    obtain ⟨h1, h2, rfl⟩ := logO_some n l h
    have := pad8_len n.toNat (by omega)
    rw [logT, List.length_append, this]
    decide)
theorem packStage (n : Int) : PackB (stageO n) (AggP 4 n 0 0 ⟨#[]⟩) := packB (stageO n) (4, n.toNat, 0, 0, []) (AggP 4 n 0 0 ⟨#[]⟩) (fun l h => by
    have h1 := (stageO_some n l h).1
    show AggP 4 (n.toNat : Int) 0 0 ⟨#[]⟩ = _
    rw [Int.toNat_of_nonneg (show 0 ≤ n by omega)]) (fun l h => by
    have h1 := (stageO_some n l h).1
    rw [← Int.toNat_of_nonneg (show 0 ≤ n by omega)] at h
    exact some_stage h) (fun l h => by
    obtain ⟨h1, h2, rfl⟩ := stageO_some n l h
    have := dec_len 19 n.toNat (by omega)
    rw [stageT, List.length_append]
    have : stageH.length = 6 := rfl
    omega)
theorem packBlob (x p : Nat) (hx : x < 18446744073709551616) (hp : p < 4294967296) : PackB (blobO x p) (AggP 2 0 x p ⟨#[]⟩) := packB (blobO x p) (2, 0, x, p, []) (AggP 2 0 x p ⟨#[]⟩) (fun l _ => rfl) (fun l h => some_blob hx hp h) (fun l h => by
    unfold blobO at h
    split at h
    · cases h
      have := dec_len 19 p (by omega)
      have h16 := hexl_length x 16
      rw [blobT, List.length_append, List.length_append, List.length_cons]
      have : blobH.length = 5 := rfl
      omega
    · cases h)
theorem packPage (s : ByteArray) (hs : s.size ≤ 140737488351232) : PackB (pageO s.data.toList) (AggP 3 0 0 0 s) := packB (pageO s.data.toList) (3, 0, 0, 0, s.data.toList) (AggP 3 0 0 0 s) (fun l _ => rfl) (fun l h => some_page h) (fun l h => by
    unfold pageO at h
    split at h
    · cases h
      rw [pageT, List.length_append]
      have : pageH.length = 5 := rfl
      have := ba_len s
      omega
    · cases h)
set_option maxHeartbeats 4000000 in
set_option maxRecDepth 100000 in
theorem PathBack_walk (n m : Int) (x p : Nat) (s : ByteArray) (w : World) (hx : x < 18446744073709551616) (hp : p < 4294967296) (hs : s.size ≤ 140737488351232) (hT : TabH w) :
    Calls Tryd.prog 7 #[.int .i64 n, .int .i64 m, .agg #[.int .u64 x, .int .u32 p], .string s] w fun e w' => e = .returned (.bool true) ∧ Below w.heap.size w w' := by
  have HT := Lib.hid hT
  clear hT
  obtain ⟨S1, E1, f1, g1, h1⟩ := packLog n
  obtain ⟨S1m, E1m, f1m, _, h1m⟩ := packLog m
  have A1 := Lib.hid (fun W hT => f1 _ _ W (Log_any n W hT))
  have A1m := Lib.hid (fun W hT => f1m _ _ W (Log_any m W hT))
  have R1 := Lib.hid g1
  have L1 := Lib.hid h1
  have L1m := Lib.hid h1m
  clear f1 g1 h1 f1m h1m
  obtain ⟨S2, E2, f2, g2, _⟩ := packStage n
  obtain ⟨S3, E3, f3, g3, _⟩ := packBlob x p hx hp
  obtain ⟨S4, E4, f4, g4, _⟩ := packPage s hs
  have A2 := Lib.hid (fun W hT => f2 _ _ W (Stage_any n W hT))
  have A3 := Lib.hid (fun W hT => f3 _ _ W (Blob_any x p W hx hp hT))
  have A4 := Lib.hid (fun W => f4 _ _ W (Page_any s W (by omega)))
  have R2 := Lib.hid g2
  have R3 := Lib.hid g3
  have R4 := Lib.hid g4
  clear f2 g2 f3 g3 f4 g4
  have HX : Hid (x < 18446744073709551616 ∧ p < 4294967296) := Lib.hid ⟨hx, hp⟩
  clear hx hp
  go_enter Tryd.func7, Tryd.ntmps7
  go_upto_region 1 with fail
  obtain ⟨W, hW⟩ : ∃ W, w.alloc (.cells #[.int .u64 x, .int .u32 p] 47) = W := ⟨_, rfl⟩
  have c0 : W.cell? ⟨w.heap.size, 0, none⟩ = some (.int .u64 x) := by rw [← hW, World.cell?_alloc_mark]; rfl
  have c1 : W.cell? ⟨w.heap.size, 1, none⟩ = some (.int .u32 p) := by rw [← hW, World.cell?_alloc_mark]; rfl
  have hB : Below w.heap.size w W := by rw [← hW]; exact (Below.refl _ _).alloc (Nat.le_refl _) _
  rw [hW]
  have HC : Hid (W.cell? ⟨w.heap.size, 0, none⟩ = some (.int .u64 x) ∧ W.cell? ⟨w.heap.size, 1, none⟩ = some (.int .u32 p)) := Lib.hid ⟨c0, c1⟩
  have HB := Lib.hid hB
  clear c0 c1 hB hW
  have keep : Hid (∀ W' W'' : World, W'.cell? ⟨w.heap.size, 0, none⟩ = some (.int .u64 x) ∧ W'.cell? ⟨w.heap.size, 1, none⟩ = some (.int .u32 p) → Below W'.heap.size W' W'' → W''.cell? ⟨w.heap.size, 0, none⟩ = some (.int .u64 x) ∧ W''.cell? ⟨w.heap.size, 1, none⟩ = some (.int .u32 p)) := Lib.hid (fun W' W'' h hb =>
    have hlt := World.block_lt_of_cell? W' _ h.1
    ⟨(hb.cell (p := ⟨w.heap.size, 0, none⟩) hlt).trans h.1, (hb.cell (p := ⟨w.heap.size, 1, none⟩) hlt).trans h.2⟩)
  go_wp2_with fail
  refine (A1.out _ (HT.out.below HB.out)).mono ?_; rintro e w1 ⟨rfl, hb⟩
  have HC1 := Lib.hid (keep.out _ _ HC.out hb)
  have HB1 := Lib.hid (HB.out.trans (hb.mono HB.out.size))
  clear hb
  go_upto_if 27 with fail
  go_cut [8, 11, 12, 13, 14] from 28 to 58 (fun b _ _ _ _ wc => b = .bool false ∧ Hid (Below w.heap.size w wc ∧ wc.cell? ⟨w.heap.size, 0, none⟩ = some (.int .u64 x) ∧ wc.cell? ⟨w.heap.size, 1, none⟩ = some (.int .u32 p)))
  case first =>
    by_cases hE : E1 = 0
    · have hr := R1.out w1 (HT.out.below HB1.out) hE
      have RR := Lib.hid hr
      subst hE
      clear hr
      go_wp2_with fail
      refine (RR.out).mono ?_; rintro e w2 ⟨rfl, hb⟩
      have HC2 := Lib.hid (keep.out _ _ HC1.out hb)
      have HB2 := Lib.hid (HB1.out.trans (hb.mono HB1.out.size))
      clear hb
      go_wp2_with fail
      obtain ⟨W, hW⟩ : ∃ W, w2.alloc (.cells #[.int .u8 1, .int .i64 n, .int .u64 0, .int .u32 0, .string ⟨#[]⟩] 59) = W := ⟨_, rfl⟩
      have hc := CellsP.new w2 59 1 n 0 0 ⟨#[]⟩
      have hBW : Below w.heap.size w W := by rw [← hW]; exact HB2.out.alloc HB2.out.size _
      have hCW := keep.out _ W HC2.out (by rw [← hW]; exact (Below.refl _ _).alloc (Nat.le_refl _) _)
      rw [hW] at hc ⊢
      have HCW := Lib.hid hCW
      have HBW := Lib.hid hBW
      have HCP := Lib.hid hc
      clear hBW hc hW hCW
      refine (A1m.out _ (HT.out.below HBW.out)).mono ?_; rintro e w3 ⟨rfl, hb⟩
      have HC3 := Lib.hid (keep.out _ _ HCW.out hb)
      have HB3 := Lib.hid (HBW.out.trans (hb.mono HBW.out.size))
      obtain ⟨c0, c1, c2, c3, c4, _, _, _, _, _⟩ := HCP.out.below hb
      clear hb
      have hlt : w2.heap.size < w3.heap.size := World.block_lt_of_cell? w3 _ c0
      by_cases hE2 : E1m = 0
      · have hbl : Op.bytesLess S1.toList S1m.toList = decide (n < m) := log_less (L1.out trivial) (L1m.out hE2)
        subst hE2
        go_wp2_with fail
        go_meet
        exact ⟨rfl, Lib.hid ⟨HB3.out, HC3.out⟩⟩
      · go_wp2_with fail
        go_meet
        exact ⟨rfl, Lib.hid ⟨HB3.out, HC3.out⟩⟩
    · go_wp2_with fail
      go_meet
      exact ⟨rfl, Lib.hid ⟨HB1.out, HC1.out⟩⟩
  case rest =>
    obtain ⟨rfl, hcut⟩ := hcut
    have HBa := Lib.hid hcut.out.1
    have HCa := Lib.hid hcut.out.2
    clear hcut
    go_wp2_with fail
    refine (A2.out _ (HT.out.below HBa.out)).mono ?_; rintro e w4 ⟨rfl, hb⟩
    have HC4 := Lib.hid (keep.out _ _ HCa.out hb)
    have HB4 := Lib.hid (HBa.out.trans (hb.mono HBa.out.size))
    clear hb
    go_upto_if 65 with fail
    go_cut [8, 15, 16] from 66 to 78 (fun b _ _ wc => b = .bool false ∧ Hid (Below w.heap.size w wc ∧ wc.cell? ⟨w.heap.size, 0, none⟩ = some (.int .u64 x) ∧ wc.cell? ⟨w.heap.size, 1, none⟩ = some (.int .u32 p)))
    case first =>
      by_cases hE : E2 = 0
      · have hr := R2.out w4 (HT.out.below HB4.out) hE
        have RR := Lib.hid hr
        subst hE
        clear hr
        go_wp2_with fail
        refine (RR.out).mono ?_; rintro e w5 ⟨rfl, hb⟩
        have HC5 := Lib.hid (keep.out _ _ HC4.out hb)
        have HB5 := Lib.hid (HB4.out.trans (hb.mono HB4.out.size))
        clear hb
        go_wp2_with fail
        go_meet
        exact ⟨rfl, Lib.hid ⟨HB5.out.alloc HB5.out.size _, keep.out _ _ HC5.out ((Below.refl _ _).alloc (Nat.le_refl _) _)⟩⟩
      · go_wp2_with fail
        go_meet
        exact ⟨rfl, Lib.hid ⟨HB4.out, HC4.out⟩⟩
    case rest =>
      obtain ⟨rfl, hcut⟩ := hcut
      have HBb := Lib.hid hcut.out.1
      have HCb := Lib.hid hcut.out.2
      clear hcut
      obtain ⟨c0, c1⟩ := HCb.out
      go_wp2_with fail
      refine (A3.out _ (HT.out.below HBb.out)).mono ?_; rintro e w6 ⟨rfl, hb⟩
      have HC6 := Lib.hid (keep.out _ _ HCb.out hb)
      have HB6 := Lib.hid (HBb.out.trans (hb.mono HBb.out.size))
      clear hb c0 c1
      go_upto_if 85 with fail
      go_cut [8, 17, 18] from 86 to 98 (fun b _ _ wc => b = .bool false ∧ Hid (Below w.heap.size w wc ∧ wc.cell? ⟨w.heap.size, 0, none⟩ = some (.int .u64 x) ∧ wc.cell? ⟨w.heap.size, 1, none⟩ = some (.int .u32 p)))
      case first =>
        by_cases hE : E3 = 0
        · have hr := R3.out w6 (HT.out.below HB6.out) hE
          have RR := Lib.hid hr
          subst hE
          clear hr
          go_wp2_with fail
          refine (RR.out).mono ?_; rintro e w7 ⟨rfl, hb⟩
          have HC7 := Lib.hid (keep.out _ _ HC6.out hb)
          have HB7 := Lib.hid (HB6.out.trans (hb.mono HB6.out.size))
          clear hb
          go_upto_region 15 with fail
          obtain ⟨W, hW⟩ : ∃ W, w7.alloc (.cells #[.int .u8 2, .int .i64 0, .int .u64 x, .int .u32 p, .string ⟨#[]⟩] 59) = W := ⟨_, rfl⟩
          have hc := CellsP.new w7 59 2 0 x p ⟨#[]⟩
          have hBW : Below w.heap.size w W := by rw [← hW]; exact HB7.out.alloc HB7.out.size _
          have hCW := keep.out _ W HC7.out (by rw [← hW]; exact (Below.refl _ _).alloc (Nat.le_refl _) _)
          rw [hW] at hc ⊢
          have HCW := Lib.hid hCW
          have HBW := Lib.hid hBW
          clear hBW hW
          obtain ⟨c0, c1, c2, c3, c4, _, _, _, _, _⟩ := hc
          obtain ⟨b0, b1⟩ := hCW
          go_wp2_with fail
          go_meet
          exact ⟨rfl, Lib.hid ⟨HBW.out, HCW.out⟩⟩
        · go_wp2_with fail
          go_meet
          exact ⟨rfl, Lib.hid ⟨HB6.out, HC6.out⟩⟩
      case rest =>
        obtain ⟨rfl, hcut⟩ := hcut
        have HBc := Lib.hid hcut.out.1
        clear hcut
        go_wp2_with fail
        refine (A4.out _).mono ?_; rintro e w8 ⟨rfl, hb⟩
        have HB8 := Lib.hid (HBc.out.trans (hb.mono HBc.out.size))
        clear hb
        by_cases hE : E4 = 0
        · have hr := R4.out w8 (HT.out.below HB8.out) hE
          have RR := Lib.hid hr
          subst hE
          clear hr
          go_wp2_with fail
          refine (RR.out).mono ?_; rintro e w9 ⟨rfl, hb⟩
          have HB9 := Lib.hid (HB8.out.trans (hb.mono HB8.out.size))
          clear hb
          go_upto_region 21 with fail
          obtain ⟨W, hW⟩ : ∃ W, w9.alloc (.cells #[.int .u8 3, .int .i64 0, .int .u64 0, .int .u32 0, .string s] 59) = W := ⟨_, rfl⟩
          have hc := CellsP.new w9 59 3 0 0 0 s
          have hBW : Below w.heap.size w W := by rw [← hW]; exact HB9.out.alloc HB9.out.size _
          rw [hW] at hc ⊢
          have HBW := Lib.hid hBW
          clear hBW hW
          obtain ⟨c0, c1, c2, c3, c4, _, _, _, _, _⟩ := hc
          have hse : (s.toList == s.toList) = true := by simp
          go_wp2_with fail
          refine (palive_any W (HT.out.below HBW.out)).mono ?_; rintro e w10 ⟨rfl, hb⟩
          have HB10 := Lib.hid (HBW.out.trans (hb.mono HBW.out.size))
          clear hb
          go_wp2_with fail
          go_ret
          exact ⟨rfl, HB10.out⟩
        · go_wp2_with fail
          refine (palive_any _ (HT.out.below HB8.out)).mono ?_; rintro e w9 ⟨rfl, hb⟩
          have HB9 := Lib.hid (HB8.out.trans (hb.mono HB8.out.size))
          clear hb
          go_wp2_with fail
          go_ret
          exact ⟨rfl, HB9.out⟩
end Go.Proofs.YtnfknbjdggkdpaaDoor
