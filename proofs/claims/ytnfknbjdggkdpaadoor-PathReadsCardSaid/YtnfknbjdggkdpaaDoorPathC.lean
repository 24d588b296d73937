/-
  The reference's names of files; the law's 'made'; 'starts', 'Cut'. No statement is proved here.
-/
import Derived.Test.YtnfknbjdggkdpaaDoorPathB
namespace Go.Proofs.YtnfknbjdggkdpaaDoor
open Go.RowKit
def SaidIs (o : Option (List UInt8)) (w : World) (e : Ending) (w' : World) : Prop := e = .returned (.string ⟨(o.getD []).toArray⟩) ∧ Below w.heap.size w w'
theorem wrap_nat (m : Nat) (h : m ≤ 9223372036854775807) : IntKind.u64.wrap (m : Int) = (m : Int) := by rw [IntKind.wrap_u64]; omega
set_option maxHeartbeats 1000000 in
set_option maxRecDepth 100000 in
theorem refLog_any (n : Int) (w : World) : Calls Tryd.prog 32 #[.int .i64 n] w (SaidIs (logO n) w) := by
  by_cases h : 1 ≤ n ∧ n ≤ 99999999
  · obtain ⟨m, rfl⟩ := Int.eq_ofNat_of_zero_le (show 0 ≤ n by omega)
    have HO : Hid (logO m = some (logT m)) := Lib.hid (by rw [logO, if_pos h]; rfl)
    obtain ⟨h1, h2⟩ := h
    obtain ⟨D, hD⟩ : ∃ D : ByteArray, (⟨(Lib.decDigits m).toArray⟩ : ByteArray) = D := ⟨_, rfl⟩
    have hsz : D.size = (Lib.decDigits m).length := by rw [← hD, ba_size]
    have hle : D.size ≤ 8 := by rw [hsz]; exact dec_len 7 m (by omega)
    have HD := Lib.hid hD
    have HS := Lib.hid hsz
    have hI := Number_any m (by omega) w
    rw [hD] at hI
    have HI := Lib.hid hI
    have hwr := wrap_nat m (by omega)
    have hs4 : (⟨#[108, 111, 103, 47]⟩ : ByteArray).size = 4 := rfl
    have hs1 : (⟨#[48]⟩ : ByteArray).size = 1 := rfl
    clear hI hsz hD
    go_enter Tryd.func32, Tryd.ntmps32
    go_wp2_with fail
    refine HI.out.mono ?_; rintro e w' ⟨rfl, rfl⟩
    go_wp2_with fail
    go_loop [3] (fun x => ∃ (S : ByteArray) (k : Nat), x = .string S ∧ S.size ≤ 8 ∧ D.size + k = S.size ∧ Hid (S.data.toList = List.replicate k 48 ++ D.data.toList)) (fun x => match x with | .string s => 8 - s.size | _ => 0)
    case atStart => exact ⟨D, 0, rfl, hle, rfl, Lib.hid rfl⟩
    case round =>
      obtain ⟨S, k, rfl, hS, hk, HG⟩ := hrel
      by_cases hlt : S.size < 8
      · have HN : Hid (((⟨#[48]⟩ : ByteArray) ++ S).data.toList = List.replicate (k + 1) 48 ++ D.data.toList) := Lib.hid (by
          rw [ba_app_list, HG.out, List.replicate_succ]; rfl)
        have hz : ((⟨#[48]⟩ : ByteArray) ++ S).size = S.size + 1 := by rw [ByteArray.size_append, hs1]; omega
        have HZ := Lib.hid hz
        clear hz
        go_wp2_with fail
        go_round
        case rel => exact ⟨_, k + 1, rfl, by rw [HZ.out]; omega, by rw [HZ.out]; omega, HN⟩
        case measure => simp only [HZ.out]; simp; omega
      · have h8 : S.size = 8 := by omega
        have HR : Hid ((⟨#[108, 111, 103, 47]⟩ : ByteArray) ++ S = ⟨(logT m).toArray⟩) := Lib.hid (by
          apply ba_inj
          rw [ba_app_list, HG.out, ← HD.out]
          have e : k = 8 - (Lib.decDigits m).length := by have := HS.out; omega
          rw [e]
          simp [logT, logH, pad8])
        have h8' : 8 ≤ S.size := by omega
        clear h8 hk
        go_wp2_with fail
        go_ret
        rw [HO.out]
        exact ⟨by rw [show (some (logT m)).getD [] = logT m from rfl, ← HR.out]; rfl, Below.refl _ _⟩
  · have HO : Hid (logO n = none) := Lib.hid (by rw [logO, if_neg h])
    have h' : n < 1 ∨ (1 ≤ n ∧ 99999999 < n) := by omega
    clear h
    rcases h' with h | ⟨h, g⟩
    all_goals
      go_enter Tryd.func32, Tryd.ntmps32
      go_wp2_with fail
      go_ret
      rw [HO.out]
      exact ⟨rfl, Below.refl _ _⟩
set_option maxHeartbeats 1000000 in
set_option maxRecDepth 100000 in
theorem refStage_any (n : Int) (w : World) : Calls Tryd.prog 33 #[.int .i64 n] w (SaidIs (stageO n) w) := by
  by_cases h : 1 ≤ n ∧ n ≤ 2147483647
  · obtain ⟨m, rfl⟩ := Int.eq_ofNat_of_zero_le (show 0 ≤ n by omega)
    have HO : Hid (stageO m = some (stageT m)) := Lib.hid (by rw [stageO, if_pos h]; rfl)
    obtain ⟨h1, h2⟩ := h
    obtain ⟨D, hD⟩ : ∃ D : ByteArray, (⟨(Lib.decDigits m).toArray⟩ : ByteArray) = D := ⟨_, rfl⟩
    have hle : D.size ≤ 10 := by rw [← hD, ba_size]; exact dec_len 9 m (by omega)
    have HR : Hid ((⟨#[115, 116, 97, 103, 101, 47]⟩ : ByteArray) ++ D = ⟨(stageT m).toArray⟩) := Lib.hid (by
      apply ba_inj
      rw [ba_app_list, ← hD]
      simp [stageT, stageH])
    have hI := Number_any m (by omega) w
    rw [hD] at hI
    have HI := Lib.hid hI
    have hwr := wrap_nat m (by omega)
    have hs6 : (⟨#[115, 116, 97, 103, 101, 47]⟩ : ByteArray).size = 6 := rfl
    clear hI hD
    go_enter Tryd.func33, Tryd.ntmps33
    go_wp2_with fail
    refine HI.out.mono ?_; rintro e w' ⟨rfl, rfl⟩
    go_wp2_with fail
    go_ret
    rw [HO.out]
    exact ⟨by rw [show (some (stageT m)).getD [] = stageT m from rfl, ← HR.out]; rfl, Below.refl _ _⟩
  · have HO : Hid (stageO n = none) := Lib.hid (by rw [stageO, if_neg h])
    have h' : n < 1 ∨ (1 ≤ n ∧ 2147483647 < n) := by omega
    clear h
    rcases h' with h | ⟨h, g⟩
    all_goals
      go_enter Tryd.func33, Tryd.ntmps33
      go_wp2_with fail
      go_ret
      rw [HO.out]
      exact ⟨rfl, Below.refl _ _⟩
set_option maxHeartbeats 1000000 in
set_option maxRecDepth 100000 in
theorem refPage_any (s : ByteArray) (w : World) (hs : s.size ≤ 140737488355328) : Calls Tryd.prog 35 #[.string s] w (SaidIs (pageO s.data.toList) w) := by
  have hI := refIs_any s w hs
  cases hn : isN s.data.toList with
  | true =>
    rw [hn] at hI
    have HI := Lib.hid hI
    have HO : Hid (pageO s.data.toList = some (pageT s.data.toList)) := Lib.hid (by rw [pageO, if_pos hn])
    have HR : Hid ((⟨#[112, 97, 103, 101, 47]⟩ : ByteArray) ++ s = ⟨(pageT s.data.toList).toArray⟩) := Lib.hid (by
      apply ba_inj
      rw [ba_app_list]
      simp [pageT, pageH])
    have hs5 : (⟨#[112, 97, 103, 101, 47]⟩ : ByteArray).size = 5 := rfl
    clear hI hn
    go_enter Tryd.func35, Tryd.ntmps35
    go_wp2_with fail
    refine HI.out.mono ?_; rintro e w' ⟨rfl, hb⟩
    have HB := Lib.hid hb
    clear hb
    go_wp2_with fail
    go_ret
    rw [HO.out]
    exact ⟨by rw [show (some (pageT s.data.toList)).getD [] = pageT s.data.toList from rfl, ← HR.out]; rfl, HB.out⟩
  | false =>
    rw [hn] at hI
    have HI := Lib.hid hI
    have HO : Hid (pageO s.data.toList = none) := Lib.hid (by rw [pageO, if_neg (by simp [hn])])
    clear hI hn
    go_enter Tryd.func35, Tryd.ntmps35
    go_wp2_with fail
    refine HI.out.mono ?_; rintro e w' ⟨rfl, hb⟩
    have HB := Lib.hid hb
    clear hb
    go_wp2_with fail
    go_ret
    rw [HO.out]
    exact ⟨rfl, HB.out⟩
theorem refText_any (x : Nat) (w : World) (hx : x < 18446744073709551616) : Calls Tryd.prog 56 #[.int .u64 x] w fun e w' => e = .returned (.string ⟨(hexl x 16).toArray⟩) ∧ w = w' := by
  have H := Lib.hid (Hex_16 x w hx)
  go_enter Tryd.func56, Tryd.ntmps56
  go_wp2_with fail
  refine H.out.mono ?_; rintro e w' ⟨rfl, rfl⟩
  go_wp2_with fail
  go_ret
  exact ⟨rfl, rfl⟩
set_option maxHeartbeats 2000000 in
set_option maxRecDepth 100000 in
theorem refBlob_any (x n : Nat) (w : World) (hx : x < 18446744073709551616) (hn : n < 4294967296) : Calls Tryd.prog 34 #[.int .u64 x, .int .u32 n] w (SaidIs (blobO x n) w) := by
  by_cases h : 1 ≤ n
  · have HO : Hid (blobO x n = some (blobT x n)) := Lib.hid (by rw [blobO, if_pos h])
    obtain ⟨D, hD⟩ : ∃ D : ByteArray, (⟨(Lib.decDigits n).toArray⟩ : ByteArray) = D := ⟨_, rfl⟩
    have hle : D.size ≤ 10 := by rw [← hD, ba_size]; exact dec_len 9 n (by omega)
    obtain ⟨X, hX⟩ : ∃ X : ByteArray, (⟨(hexl x 16).toArray⟩ : ByteArray) = X := ⟨_, rfl⟩
    have hX16' : X.size ≤ 16 := by rw [← hX, ba_size, hexl_length]; omega
    have HR : Hid ((((⟨#[98, 108, 111, 98, 47]⟩ : ByteArray) ++ X) ++ (⟨#[45]⟩ : ByteArray)) ++ D = ⟨(blobT x n).toArray⟩) := Lib.hid (by
      apply ba_inj
      rw [ba_app_list, ba_app_list, ba_app_list, ← hD, ← hX]
      simp [blobT, blobH])
    have hF := fun W => Number_any n (by omega) W
    have hTx := fun W => refText_any x W hx
    rw [hD] at hF
    rw [hX] at hTx
    have HF := Lib.hid hF
    have HTx := Lib.hid hTx
    have hwr := u32_of n hn
    have hs5 : (⟨#[98, 108, 111, 98, 47]⟩ : ByteArray).size = 5 := rfl
    have hs1 : (⟨#[45]⟩ : ByteArray).size = 1 := rfl
    clear hF hTx hD hX
    go_enter Tryd.func34, Tryd.ntmps34
    go_wp2_with fail
    refine (HTx.out _).mono ?_; rintro e w' ⟨rfl, rfl⟩
    go_wp2_with fail
    refine (HF.out _).mono ?_; rintro e w' ⟨rfl, rfl⟩
    go_wp2_with fail
    go_ret
    rw [HO.out]
    exact ⟨by rw [show (some (blobT x n)).getD [] = blobT x n from rfl, ← HR.out]; rfl, Below.refl _ _⟩
  · obtain rfl : n = 0 := by omega
    have HO : Hid (blobO x 0 = none) := Lib.hid (by rw [blobO, if_neg h])
    clear h
    go_enter Tryd.func34, Tryd.ntmps34
    go_wp2_with fail
    go_ret
    rw [HO.out]
    exact ⟨rfl, Below.refl _ _⟩
end Go.Proofs.YtnfknbjdggkdpaaDoor
