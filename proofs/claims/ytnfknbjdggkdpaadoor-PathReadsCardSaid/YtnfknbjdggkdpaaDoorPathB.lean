/-
  path: the names made. No statement is proved here.
-/
import Derived.Test.YtnfknbjdggkdpaaDoorPathA
import Derived.Deep.RegionWith
namespace Go.Proofs.YtnfknbjdggkdpaaDoor
open Go.RowKit
def MadeIs (o : Option (List UInt8)) (w : World) (e : Ending) (w' : World) : Prop := e = .returned (.tuple #[.string ⟨(o.getD []).toArray⟩, .int .i64 (match o with | none => 110 | some _ => 0)]) ∧ Below w.heap.size w w'
def logO (n : Int) : Option (List UInt8) := if 1 ≤ n ∧ n ≤ 99999999 then some (logT n.toNat) else none
def stageO (n : Int) : Option (List UInt8) := if 1 ≤ n ∧ n ≤ 2147483647 then some (stageT n.toNat) else none
def blobO (s n : Nat) : Option (List UInt8) := if 1 ≤ n then some (blobT s n) else none
def pageO (l : List UInt8) : Option (List UInt8) := if isN l then some (pageT l) else none
theorem zeros_extract (k : Nat) (h : k ≤ 8) : ((ByteArray.mk #[48, 48, 48, 48, 48, 48, 48, 48]).extract k 8) = ⟨(List.replicate (8 - k) 48).toArray⟩ := by
  have : ∀ d : Fin 9, ((ByteArray.mk #[48, 48, 48, 48, 48, 48, 48, 48]).extract d.1 8) = ⟨(List.replicate (8 - d.1) 48).toArray⟩ := by decide +kernel
  exact this ⟨k, by omega⟩
theorem ba_app_list (a b : ByteArray) : (a ++ b).data.toList = a.data.toList ++ b.data.toList := by simp [ByteArray.data_append]
set_option maxHeartbeats 1000000 in
set_option maxRecDepth 100000 in
theorem Log_any (n : Int) (w : World) (hT : TabH w) : Calls Tryd.prog 27 #[.int .i64 n] w (MadeIs (logO n) w) := by
  by_cases h : 1 ≤ n ∧ n ≤ 99999999
  · obtain ⟨m, rfl⟩ := Int.eq_ofNat_of_zero_le (show 0 ≤ n by omega)
    have HO : Hid (logO m = some (logT m)) := Lib.hid (by rw [logO, if_pos h]; rfl)
    obtain ⟨h1, h2⟩ := h
    obtain ⟨D, hD⟩ : ∃ D : ByteArray, (⟨(Lib.decDigits m).toArray⟩ : ByteArray) = D := ⟨_, rfl⟩
    have hsz : D.size = (Lib.decDigits m).length := by rw [← hD, ba_size]
    have hle : D.size ≤ 8 := by rw [hsz]; exact dec_len 7 m (by omega)
    obtain ⟨P, hP⟩ : ∃ P : ByteArray, (⟨(List.replicate (8 - D.size) 48).toArray⟩ : ByteArray) = P := ⟨_, rfl⟩
    have hx := zeros_extract D.size hle
    rw [hP] at hx
    have hPs : P.size ≤ 8 := by rw [← hP, ba_size, List.length_replicate]; omega
    have HR : Hid (((⟨#[108, 111, 103, 47]⟩ : ByteArray) ++ P) ++ D = ⟨(logT m).toArray⟩) := Lib.hid (by
      apply ba_inj
      rw [ba_app_list, ba_app_list, ← hP, hsz, ← hD]
      simp [logT, logH, pad8])
    have hI := Itoa_dec m (by omega) w hT
    unfold DecIs at hI
    rw [hD] at hI
    have HI := Lib.hid hI
    have hs4 : (⟨#[108, 111, 103, 47]⟩ : ByteArray).size = 4 := rfl
    clear hI hT hsz hP hD
    go_enter Tryd.func27, Tryd.ntmps27
    go_wp2_with fail
    refine HI.out.mono ?_; rintro e w' ⟨rfl, hb⟩
    have HB := Lib.hid hb
    clear hb
    go_wp2_with fail
    go_ret2
    rw [HO.out]
    exact ⟨by rw [show (some (logT m)).getD [] = logT m from rfl, ← HR.out]; rfl, HB.out⟩
  · have HO : Hid (logO n = none) := Lib.hid (by rw [logO, if_neg h])
    have h' : n < 1 ∨ (1 ≤ n ∧ 99999999 < n) := by omega
    clear h hT
    rcases h' with h | ⟨h, g⟩
    all_goals
      go_enter Tryd.func27, Tryd.ntmps27
      go_wp2_with fail
      go_ret2
      rw [HO.out]
      exact ⟨rfl, Below.refl _ _⟩
set_option maxHeartbeats 1000000 in
set_option maxRecDepth 100000 in
theorem Stage_any (n : Int) (w : World) (hT : TabH w) : Calls Tryd.prog 28 #[.int .i64 n] w (MadeIs (stageO n) w) := by
  by_cases h : 1 ≤ n ∧ n ≤ 2147483647
  · obtain ⟨m, rfl⟩ := Int.eq_ofNat_of_zero_le (show 0 ≤ n by omega)
    have HO : Hid (stageO m = some (stageT m)) := Lib.hid (by rw [stageO, if_pos h]; rfl)
    obtain ⟨h1, h2⟩ := h
    obtain ⟨D, hD⟩ : ∃ D : ByteArray, (⟨(Lib.decDigits m).toArray⟩ : ByteArray) = D := ⟨_, rfl⟩
    have hle : D.size ≤ 10 := by rw [← hD, ba_size]; exact dec_len 9 m (by omega)
    have HR : Hid ((⟨#[115, 116, 97, 103, 101, 47]⟩ : ByteArray) ++ D = ⟨(stageT m).toArray⟩) := Lib.hid (by
      apply ba_inj
      rw [ba_app_list, ← hD]
      simp [stageT, stageH])
    have hI := Itoa_dec m (by omega) w hT
    unfold DecIs at hI
    rw [hD] at hI
    have HI := Lib.hid hI
    have hs6 : (⟨#[115, 116, 97, 103, 101, 47]⟩ : ByteArray).size = 6 := rfl
    clear hI hT hD
    go_enter Tryd.func28, Tryd.ntmps28
    go_wp2_with fail
    refine HI.out.mono ?_; rintro e w' ⟨rfl, hb⟩
    have HB := Lib.hid hb
    clear hb
    go_wp2_with fail
    go_ret2
    rw [HO.out]
    exact ⟨by rw [show (some (stageT m)).getD [] = stageT m from rfl, ← HR.out]; rfl, HB.out⟩
  · have HO : Hid (stageO n = none) := Lib.hid (by rw [stageO, if_neg h])
    have h' : n < 1 ∨ (1 ≤ n ∧ 2147483647 < n) := by omega
    clear h hT
    rcases h' with h | ⟨h, g⟩
    all_goals
      go_enter Tryd.func28, Tryd.ntmps28
      go_wp2_with fail
      go_ret2
      rw [HO.out]
      exact ⟨rfl, Below.refl _ _⟩
set_option maxHeartbeats 1000000 in
set_option maxRecDepth 100000 in
theorem Page_any (s : ByteArray) (w : World) (hs : s.size ≤ 140737488355328) : Calls Tryd.prog 30 #[.string s] w (MadeIs (pageO s.data.toList) w) := by
  have hI := Is_any s w hs
  cases hn : isN s.data.toList with
  | true =>
    rw [hn] at hI
    have HI := Lib.hid hI
    have HO : Hid (pageO s.data.toList = some (pageT s.data.toList)) := Lib.hid (by rw [pageO, if_pos hn])
    have HR : Hid ((⟨#[112, 97, 103, 101, 47]⟩ : ByteArray) ++ s = ⟨(pageT s.data.toList).toArray⟩) := Lib.hid (by
      apply ba_inj
      rw [ba_app_list]
      simp [pageT, pageH])
    have hs5 : (⟨#[112, 97, 103, 101, 47]⟩ : ByteArray).size = 5 := rfl
    clear hI hn
    go_enter Tryd.func30, Tryd.ntmps30
    go_wp2_with fail
    refine HI.out.mono ?_; rintro e w' ⟨rfl, hb⟩
    have HB := Lib.hid hb
    clear hb
    go_wp2_with fail
    go_ret2
    rw [HO.out]
    exact ⟨by rw [show (some (pageT s.data.toList)).getD [] = pageT s.data.toList from rfl, ← HR.out]; rfl, HB.out⟩
  | false =>
    rw [hn] at hI
    have HI := Lib.hid hI
    have HO : Hid (pageO s.data.toList = none) := Lib.hid (by rw [pageO, if_neg (by simp [hn])])
    clear hI hn
    go_enter Tryd.func30, Tryd.ntmps30
    go_wp2_with fail
    refine HI.out.mono ?_; rintro e w' ⟨rfl, hb⟩
    have HB := Lib.hid hb
    clear hb
    go_wp2_with fail
    go_ret2
    rw [HO.out]
    exact ⟨rfl, HB.out⟩
theorem u32_of (n : Nat) (h : n < 4294967296) : IntKind.u64.wrap (n : Int) = (n : Int) := by rw [IntKind.wrap_u64]; omega
set_option maxHeartbeats 2000000 in
set_option maxRecDepth 100000 in
theorem Blob_any (x n : Nat) (w : World) (hx : x < 18446744073709551616) (hn : n < 4294967296) (hT : TabH w) : Calls Tryd.prog 29 #[.agg #[.int .u64 x, .int .u32 n]] w (MadeIs (blobO x n) w) := by
  by_cases h : 1 ≤ n
  · have HO : Hid (blobO x n = some (blobT x n)) := Lib.hid (by rw [blobO, if_pos h])
    obtain ⟨D, hD⟩ : ∃ D : ByteArray, (⟨(Lib.decDigits n).toArray⟩ : ByteArray) = D := ⟨_, rfl⟩
    have hle : D.size ≤ 10 := by rw [← hD, ba_size]; exact dec_len 9 n (by omega)
    obtain ⟨X, hX⟩ : ∃ X : ByteArray, (⟨(hexl x 16).toArray⟩ : ByteArray) = X := ⟨_, rfl⟩
    have hX16 : X.size = 16 := by rw [← hX, ba_size, hexl_length]
    have hX16' : X.size ≤ 16 := by omega
    have HR : Hid ((((⟨#[98, 108, 111, 98, 47]⟩ : ByteArray) ++ X) ++ (⟨#[45]⟩ : ByteArray)) ++ D = ⟨(blobT x n).toArray⟩) := Lib.hid (by
      apply ba_inj
      rw [ba_app_list, ba_app_list, ba_app_list, ← hD, ← hX]
      simp [blobT, blobH])
    have hF : ∀ W, TabH W → Calls Tryd.prog 53 #[.int .u64 n, .int .i64 10] W (DecIs n W) := fun W hT => FormatUint_any n (by omega) W hT
    have hwr := u32_of n hn
    have hTx := fun W => Text_any x W hx
    unfold DecIs at hF
    rw [hD] at hF
    rw [hX] at hTx
    have HF := Lib.hid hF
    have HTx := Lib.hid hTx
    have HT := Lib.hid hT
    have hs5 : (⟨#[98, 108, 111, 98, 47]⟩ : ByteArray).size = 5 := rfl
    have hs1 : (⟨#[45]⟩ : ByteArray).size = 1 := rfl
    clear hF hTx hT hD hX hX16
    have hBx : Below w.heap.size w (w.alloc (.cells #[.int .u64 x, .int .u32 n] 47)) := (Below.refl _ _).alloc (Nat.le_refl _) _
    have c0 : (w.alloc (.cells #[.int .u64 x, .int .u32 n] 47)).cell? ⟨w.heap.size, 0, none⟩ = some (.int .u64 x) := by rw [World.cell?_alloc_mark]; rfl
    have c1 : (w.alloc (.cells #[.int .u64 x, .int .u32 n] 47)).cell? ⟨w.heap.size, 1, none⟩ = some (.int .u32 n) := by rw [World.cell?_alloc_mark]; rfl
    have hsz : w.heap.size < (w.alloc (.cells #[.int .u64 x, .int .u32 n] 47)).heap.size := by simp
    have hBd : Below w.heap.size w ((w.alloc (.cells #[.int .u64 x, .int .u32 n] 47)).drew) := below_drewN hBx 1
    go_enter Tryd.func29, Tryd.ntmps29
    go_wp2_with fail
    go_region_with (first
      | (go_at_call 52; refine (HTx.out _).mono ?_; rintro e w1 ⟨rfl, hb1⟩; have d1 : w1.cell? ⟨w.heap.size, 1, none⟩ = some (.int .u32 n) := (hb1.cell (p := ⟨w.heap.size, 1, none⟩) hsz).trans c1; have HB1 : Hid (Below w.heap.size w w1) := Lib.hid (hBd.trans (hb1.mono (Nat.le_of_lt hsz))); clear hb1)
      | (go_at_call 53; refine (HF.out _ (HT.out.below HB1.out)).mono ?_; rintro e w2 ⟨rfl, hb2⟩; have HB2 := Lib.hid (HB1.out.trans (hb2.mono HB1.out.size)); clear hb2))
    all_goals
      go_wp2_with fail
      go_ret2
      rw [HO.out]
      exact ⟨by rw [show (some (blobT x n)).getD [] = blobT x n from rfl, ← HR.out]; rfl, HB2.out⟩
  · obtain rfl : n = 0 := by omega
    have HO : Hid (blobO x 0 = none) := Lib.hid (by rw [blobO, if_neg h])
    clear h hT
    go_enter Tryd.func29, Tryd.ntmps29
    go_wp2_with fail
    go_ret2
    rw [HO.out]
    exact ⟨rfl, (Below.refl _ _).alloc (Nat.le_refl _) _⟩
end Go.Proofs.YtnfknbjdggkdpaaDoor
