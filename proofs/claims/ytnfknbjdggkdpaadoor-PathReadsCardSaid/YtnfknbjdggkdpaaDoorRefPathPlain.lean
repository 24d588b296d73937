/-
  What the reference's Read tests, in plain lists. No statement is proved here.
-/
import Derived.Test.YtnfknbjdggkdpaaDoorPathBackW
namespace Go.Proofs.YtnfknbjdggkdpaaDoor
open Go.RowKit
/-- What 'starts' gives. -/
def StartD (s h r : ByteArray) (b : Bool) : Prop := r.size ≤ s.size ∧ (b = true → s.data.toList = h.data.toList ++ r.data.toList) ∧ (b = false → r = ⟨#[]⟩ ∧ ∀ m, s.data.toList ≠ h.data.toList ++ m)
theorem StartD.cancel {s h r : ByteArray} {b : Bool} (hd : StartD s h r b) {m : List UInt8} (e : s.data.toList = h.data.toList ++ m) : b = true ∧ r.data.toList = m := by
  cases b with
  | false => exact absurd e ((hd.2.2 rfl).2 m)
  | true => exact ⟨rfl, List.append_cancel_left ((hd.2.1 rfl).symm.trans e)⟩
theorem startD_of (s h : ByteArray) : ∃ r b, StartD s h r b ∧ (startsP s h → r = s.extract h.size s.size ∧ b = true) ∧ (¬ startsP s h → r = ⟨#[]⟩ ∧ b = false) := by
  by_cases hP : startsP s h
  · refine ⟨s.extract h.size s.size, true, ⟨?_, ?_, (fun h => by cases h)⟩, fun _ => ⟨rfl, rfl⟩, fun x => absurd hP x⟩
    · rw [ByteArray.size_extract]; omega
    · intro _
      conv => lhs; rw [← List.take_append_drop h.size s.data.toList]
      have e1 : s.data.toList.take h.size = h.data.toList := by
        have := congrArg (fun b : ByteArray => b.data.toList) hP.2
        simpa using this
      have e2 : s.data.toList.drop h.size = (s.extract h.size s.size).data.toList := by
        have := ba_len s
        rw [ByteArray.data_extract, Array.toList_extract, List.extract_eq_take_drop, List.take_of_length_le (by rw [List.length_drop]; omega)]
      rw [e1, e2]
  · refine ⟨⟨#[]⟩, false, ⟨Nat.zero_le _, (fun h => by cases h), fun _ => ⟨rfl, fun m e => hP ?_⟩⟩, fun x => absurd x hP, fun _ => ⟨rfl, rfl⟩⟩
    have hl := ba_len s
    have hl2 := ba_len h
    have hsz : h.size ≤ s.size := by rw [← hl, ← hl2, e, List.length_append]; omega
    refine ⟨hsz, ba_inj _ _ ?_⟩
    have : (s.extract 0 h.size).data.toList = s.data.toList.take h.size := by simp
    rw [this, e, ← hl2, List.take_left]
theorem log_yes {s r : ByteArray} {b : Bool} {N : Int} (hd : StartD s ⟨#[108, 111, 103, 47]⟩ r b) (hb : b = true) (h : (⟨((logO N).getD []).toArray⟩ : ByteArray) = s) : readR s.data.toList = some (1, N.toNat, 0, 0, []) ∧ 0 ≤ N := by
  have e : (logO N).getD [] = s.data.toList := by rw [← h]
  cases ho : logO N with
  | none =>
    rw [ho, hd.2.1 hb] at e
    cases e
  | some l =>
    rw [ho] at e
    obtain rfl : l = s.data.toList := e
    have h1 := (logO_some _ _ ho).1
    refine ⟨some_log ?_, by omega⟩
    rw [Int.toNat_of_nonneg (by omega)]
    exact ho
theorem log_no {s r : ByteArray} {b : Bool} {N : Int} (hd : StartD s ⟨#[108, 111, 103, 47]⟩ r b) (hN : N = numR' r.data.toList) (h : b = true → 0 < N → (⟨((logO N).getD []).toArray⟩ : ByteArray) ≠ s) (n : Nat) : ¬ LogN s.data.toList n := by
  intro hl
  obtain ⟨hb, hr⟩ := hd.cancel (m := pad8 n) hl.2.2
  have hN' : N = (n : Int) := by rw [hN, hr]; exact numR_pad8 n hl.2.1
  refine h hb (by have := hl.1; omega) ?_
  apply ba_inj
  rw [hN', logO, if_pos ⟨by have := hl.1; omega, by have := hl.2.1; omega⟩]
  exact hl.2.2.symm
theorem stage_yes {s r : ByteArray} {b : Bool} {N : Int} (hd : StartD s ⟨#[115, 116, 97, 103, 101, 47]⟩ r b) (hb : b = true) (h : (⟨((stageO N).getD []).toArray⟩ : ByteArray) = s) : readR s.data.toList = some (4, N.toNat, 0, 0, []) ∧ 0 ≤ N := by
  have e : (stageO N).getD [] = s.data.toList := by rw [← h]
  cases ho : stageO N with
  | none =>
    rw [ho, hd.2.1 hb] at e
    cases e
  | some l =>
    rw [ho] at e
    obtain rfl : l = s.data.toList := e
    have h1 := (stageO_some _ _ ho).1
    refine ⟨some_stage ?_, by omega⟩
    rw [Int.toNat_of_nonneg (by omega)]
    exact ho
theorem stage_no {s r : ByteArray} {b : Bool} {N : Int} (hd : StartD s ⟨#[115, 116, 97, 103, 101, 47]⟩ r b) (hN : N = numR' r.data.toList) (h : b = true → 0 < N → (⟨((stageO N).getD []).toArray⟩ : ByteArray) ≠ s) (n : Nat) : ¬ StageN s.data.toList n := by
  intro hl
  obtain ⟨hb, hr⟩ := hd.cancel (m := Lib.decDigits n) hl.2.2
  have hN' : N = (n : Int) := by rw [hN, hr]; exact numR_dec n (by have := hl.2.1; omega)
  refine h hb (by have := hl.1; omega) ?_
  apply ba_inj
  rw [hN', stageO, if_pos ⟨by have := hl.1; omega, by have := hl.2.1; omega⟩]
  exact hl.2.2.symm
theorem page_yes {s r : ByteArray} {b : Bool} (hd : StartD s ⟨#[112, 97, 103, 101, 47]⟩ r b) (hb : b = true) (h : isN r.data.toList = true) : readR s.data.toList = some (3, 0, 0, 0, r.data.toList) := readR_page ⟨h, hd.2.1 hb⟩
theorem page_no {s r : ByteArray} {b : Bool} (hd : StartD s ⟨#[112, 97, 103, 101, 47]⟩ r b) (h : b = true → isN r.data.toList = false) (m : List UInt8) : ¬ PageN s.data.toList m := by
  intro hl
  obtain ⟨hb, hr⟩ := hd.cancel (m := m) hl.2
  have := h hb
  rw [hr, hl.1] at this
  cases this
theorem blob_yes {s r : ByteArray} {b : Bool} {x n : Nat} (hd : StartD s ⟨#[98, 108, 111, 98, 47]⟩ r b) (hb : b = true) (hx : x < 18446744073709551616) (hn : n < 4294967296) (h : (⟨((blobO x n).getD []).toArray⟩ : ByteArray) = s) : readR s.data.toList = some (2, 0, x, n, []) := by
  have e : (blobO x n).getD [] = s.data.toList := by rw [← h]
  cases ho : blobO x n with
  | none =>
    rw [ho, hd.2.1 hb] at e
    cases e
  | some l =>
    rw [ho] at e
    obtain rfl : l = s.data.toList := e
    exact some_blob hx hn ho
theorem blob_no {s r : ByteArray} {b : Bool} (hd : StartD s ⟨#[98, 108, 111, 98, 47]⟩ r b) (h : b = true → 17 < r.size → hexErr (r.data.toList.take 16) = 0 → ∀ N : Int, N = numR' (r.data.toList.drop 17) → 0 < N → N < 4294967296 → (⟨((blobO (hexVal (r.data.toList.take 16)) N.toNat).getD []).toArray⟩ : ByteArray) ≠ s) (x n : Nat) : ¬ BlobN s.data.toList x n := by
  intro hl
  obtain ⟨hx, hn1, hn2, he⟩ := hl
  obtain ⟨hb, hr⟩ := hd.cancel (m := hexl x 16 ++ (45 :: Lib.decDigits n)) (by rw [he]; rfl)
  have h16 := hexl_length x 16
  have e1 : r.data.toList.take 16 = hexl x 16 := by rw [hr, List.take_append_of_le_length (by omega), List.take_of_length_le (by omega)]
  have e2 : r.data.toList.drop 17 = Lib.decDigits n := by
    have e3 : hexl x 16 ++ (45 :: Lib.decDigits n) = (hexl x 16 ++ [45]) ++ Lib.decDigits n := by simp
    rw [hr, e3, List.drop_left' (by simp [h16])]
  have hsz : 17 < r.size := by
    rw [← ba_len r, hr, List.length_append, List.length_cons, h16]
    have := dec_ne n
    cases hd' : Lib.decDigits n with
    | nil => exact absurd hd' this
    | cons => simp only [List.length_cons]; omega
  have hb2 := hex_back x hx
  refine h hb hsz (by rw [e1]; exact hb2.2) (n : Int) (by rw [e2]; exact (numR_dec n (by omega)).symm) (by omega) (by omega) ?_
  apply ba_inj
  rw [e1, hb2.1, Int.toNat_natCast, blobO, if_pos hn1]
  exact he.symm
end Go.Proofs.YtnfknbjdggkdpaaDoor
