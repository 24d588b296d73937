/-
  'yanklinelaw11.PathMakes': the walk. No statement is proved here.
-/
import Derived.Test.YtnfknbjdggkdpaaDoorPathAlive
namespace Go.Proofs.YtnfknbjdggkdpaaDoor
open Go.RowKit
def MadeA (S : ByteArray) (E : Int) (w : World) (e : Ending) (w' : World) : Prop := e = .returned (.tuple #[.string S, .int .i64 E]) ∧ Below w.heap.size w w'
def SaidA (S : ByteArray) (w : World) (e : Ending) (w' : World) : Prop := e = .returned (.string S) ∧ Below w.heap.size w w'
def MadeT (S : ByteArray) (E : Int) : Prop := ∀ w, Calls Tryd.prog 31 #[.string S, .int .i64 E, .string S] w fun e w' => e = .returned (.bool true) ∧ w = w'
theorem pack (o : Option (List UInt8)) (hl : o ≠ some []) : ∃ S E, MadeT S E ∧ (∀ F args w, Calls Tryd.prog F args w (MadeIs o w) → Calls Tryd.prog F args w (MadeA S E w)) ∧ (∀ F args w, Calls Tryd.prog F args w (SaidIs o w) → Calls Tryd.prog F args w (SaidA S w)) := by
  cases o with
  | none => exact ⟨⟨#[]⟩, 110, fun w => made_none w, fun _ _ _ h => h, fun _ _ _ h => h⟩
  | some l => exact ⟨⟨l.toArray⟩, 0, fun w => made_some l (fun h => hl (by rw [h])) w, fun _ _ _ h => h, fun _ _ _ h => h⟩
set_option maxHeartbeats 2000000 in
set_option maxRecDepth 100000 in
theorem PathMakes_walk (n : Int) (x p : Nat) (s : ByteArray) (w : World) (hx : x < 18446744073709551616) (hp : p < 4294967296) (hs : s.size ≤ 140737488351232) (hT : TabH w) :
    Calls Tryd.prog 6 #[.int .i64 n, .agg #[.int .u64 x, .int .u32 p], .string s] w fun e w' => e = .returned (.bool true) ∧ Below w.heap.size w w' := by
  obtain ⟨S1, E1, t1, f1, g1⟩ := pack (logO n) (logO_ne n)
  obtain ⟨S2, E2, t2, f2, g2⟩ := pack (stageO n) (stageO_ne n)
  obtain ⟨S3, E3, t3, f3, g3⟩ := pack (blobO x p) (blobO_ne x p)
  obtain ⟨S4, E4, t4, f4, g4⟩ := pack (pageO s.data.toList) (pageO_ne _)
  have A1 := Lib.hid (fun W hT => f1 _ _ W (Log_any n W hT))
  have A2 := Lib.hid (fun W hT => f2 _ _ W (Stage_any n W hT))
  have A3 := Lib.hid (fun W hT => f3 _ _ W (Blob_any x p W hx hp hT))
  have A4 := Lib.hid (fun W => f4 _ _ W (Page_any s W (by omega)))
  have B1 := Lib.hid (fun W => g1 _ _ W (refLog_any n W))
  have B2 := Lib.hid (fun W => g2 _ _ W (refStage_any n W))
  have B3 := Lib.hid (fun W => g3 _ _ W (refBlob_any x p W hx hp))
  have B4 := Lib.hid (fun W => g4 _ _ W (refPage_any s W (by omega)))
  have T1 := Lib.hid t1
  have T2 := Lib.hid t2
  have T3 := Lib.hid t3
  have T4 := Lib.hid t4
  have HT := Lib.hid hT
  clear f1 f2 f3 f4 g1 g2 g3 g4 t1 t2 t3 t4 hT hx hp
  go_enter Tryd.func6, Tryd.ntmps6
  go_wp2_with fail
  obtain ⟨W, hW⟩ : ∃ W, w.alloc (.cells #[.int .u64 x, .int .u32 p] 47) = W := ⟨_, rfl⟩
  have c0 : W.cell? ⟨w.heap.size, 0, none⟩ = some (.int .u64 x) := by rw [← hW, World.cell?_alloc_mark]; rfl
  have c1 : W.cell? ⟨w.heap.size, 1, none⟩ = some (.int .u32 p) := by rw [← hW, World.cell?_alloc_mark]; rfl
  have hB : Below w.heap.size w W := by rw [← hW]; exact (Below.refl _ _).alloc (Nat.le_refl _) _
  rw [hW]
  have HC : Hid (W.cell? ⟨w.heap.size, 0, none⟩ = some (.int .u64 x) ∧ W.cell? ⟨w.heap.size, 1, none⟩ = some (.int .u32 p)) := Lib.hid ⟨c0, c1⟩
  have HB := Lib.hid hB
  clear c0 c1 hB hW
  have keep : Hid (∀ W' W'' : World, W'.cell? ⟨w.heap.size, 0, none⟩ = some (.int .u64 x) ∧ W'.cell? ⟨w.heap.size, 1, none⟩ = some (.int .u32 p) → Below W'.heap.size W' W'' → W''.cell? ⟨w.heap.size, 0, none⟩ = some (.int .u64 x) ∧ W''.cell? ⟨w.heap.size, 1, none⟩ = some (.int .u32 p)) := Lib.hid (fun W' W'' h hb =>
    have hlt := World.block_lt_of_cell? W' _ h.1
    ⟨(hb.cell (p := ⟨w.heap.size, 0, none⟩) hlt).trans h.1, (hb.cell (p := ⟨w.heap.size, 1, none⟩) hlt).trans h.2⟩)
  refine (A1.out _ (HT.out.below HB.out)).mono ?_; rintro e w1 ⟨rfl, hb⟩
  have HC1 := Lib.hid (keep.out _ _ HC.out hb)
  have HB1 := Lib.hid (HB.out.trans (hb.mono HB.out.size))
  clear hb
  go_wp2_with fail
  refine (A2.out _ (HT.out.below HB1.out)).mono ?_; rintro e w2 ⟨rfl, hb⟩
  have hc2 := keep.out _ _ HC1.out hb
  have HC2 := Lib.hid hc2
  have HB2 := Lib.hid (HB1.out.trans (hb.mono HB1.out.size))
  obtain ⟨c0, c1⟩ := hc2
  clear hb
  go_wp2_with fail
  refine (A3.out _ (HT.out.below HB2.out)).mono ?_; rintro e w3 ⟨rfl, hb⟩
  have HC3 := Lib.hid (keep.out _ _ HC2.out hb)
  have HB3 := Lib.hid (HB2.out.trans (hb.mono HB2.out.size))
  clear hb c0 c1
  go_wp2_with fail
  refine (A4.out _).mono ?_; rintro e w4 ⟨rfl, hb⟩
  have HC4 := Lib.hid (keep.out _ _ HC3.out hb)
  have HB4 := Lib.hid (HB3.out.trans (hb.mono HB3.out.size))
  clear hb
  go_wp2_with fail
  refine (B1.out _).mono ?_; rintro e w5 ⟨rfl, hb⟩
  have HC5 := Lib.hid (keep.out _ _ HC4.out hb)
  have HB5 := Lib.hid (HB4.out.trans (hb.mono HB4.out.size))
  clear hb
  go_wp2_with fail
  refine (T1.out _).mono ?_; rintro e w' ⟨rfl, rfl⟩
  go_wp2_with fail
  refine (B2.out _).mono ?_; rintro e w6 ⟨rfl, hb⟩
  have HC6 := Lib.hid (keep.out _ _ HC5.out hb)
  have HB6 := Lib.hid (HB5.out.trans (hb.mono HB5.out.size))
  clear hb
  go_wp2_with fail
  refine (T2.out _).mono ?_; rintro e w' ⟨rfl, rfl⟩
  obtain ⟨c0, c1⟩ := HC6.out
  go_wp2_with fail
  refine (B3.out _).mono ?_; rintro e w7 ⟨rfl, hb⟩
  have HB7 := Lib.hid (HB6.out.trans (hb.mono HB6.out.size))
  clear hb c0 c1
  go_wp2_with fail
  refine (T3.out _).mono ?_; rintro e w' ⟨rfl, rfl⟩
  go_wp2_with fail
  refine (B4.out _).mono ?_; rintro e w8 ⟨rfl, hb⟩
  have HB8 := Lib.hid (HB7.out.trans (hb.mono HB7.out.size))
  clear hb
  go_wp2_with fail
  refine (T4.out _).mono ?_; rintro e w' ⟨rfl, rfl⟩
  go_wp2_with fail
  refine (palive_any _ (HT.out.below HB8.out)).mono ?_; rintro e w9 ⟨rfl, hb⟩
  have HB9 := Lib.hid (HB8.out.trans (hb.mono HB8.out.size))
  clear hb
  go_wp2_with fail
  go_ret
  exact ⟨rfl, HB9.out⟩
end Go.Proofs.YtnfknbjdggkdpaaDoor
