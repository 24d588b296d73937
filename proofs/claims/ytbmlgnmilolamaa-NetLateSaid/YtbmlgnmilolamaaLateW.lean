/-
  'yanklinelaw24.NetLate': the walk. No statement is proved here.
-/
import Derived.Test.YtbmlgnmilolamaaLivesW
namespace Go.Proofs.Ytbmlgnmilolamaa
open Go.RowKit
/-- Fates in a slice of the call's own. -/
def FaOwn (w : World) (B : Nat) (v : Value) (l : List FaI) : Prop := w.ownsRow B 24 3 v l.length (rowC faIC l)
theorem FaOwn.form {w : World} {B : Nat} {v : Value} {l : List FaI} (h : FaOwn w B v l) : ∃ a c, v = .slice a l.length c := by
  rcases h.2 with ⟨rfl, h0⟩ | ⟨_, _, _, rfl, _⟩
  · exact ⟨none, 0, by rw [h0]⟩
  · exact ⟨_, _, rfl⟩
theorem FaOwn.below {w w' : World} {B : Nat} {v : Value} {l : List FaI} (h : FaOwn w B v l) (hb : Below w.heap.size w w') : FaOwn w' B v l :=
  h.kept (row := none) ⟨hb.os, hb.tape, hb.output, hb.size, fun k hk _ => hb.block k hk⟩ (by cases hv : v.ownBlock <;> simp)
theorem FaOwn.row {w : World} {B : Nat} {a : Option Addr} {c : Nat} {l : List FaI} (h : FaOwn w B (.slice a l.length c) l) : FaRow w a l.length l := by
  refine ⟨rfl, fun hl => ?_⟩
  have h2 := h.2
  rcases h2 with ⟨_, h0⟩ | ⟨g, cap, cur, e, _⟩
  · omega
  · injection e with e _ _
    subst e
    refine ⟨g, 0, rfl, fun i f hf => ?_⟩
    have hc := h.cells (g := g) rfl
    have key : ∀ k v, (faIC f)[k]? = some v → w.cell? ⟨g, i * 3 + k, none⟩ = some v := fun k v hv => by
      have := hc (i * 3 + k) v (rowC_at faIC 3 faIC_len l i k f v hf hv)
      rw [show (⟨g, 0, none⟩ : Addr).add (i * 3 + k) = ⟨g, i * 3 + k, none⟩ by unfold Addr.add; split <;> simp_all] at this
      exact this
    rw [Nat.zero_add]
    exact ⟨key 0 _ rfl, key 1 _ rfl, key 2 _ rfl⟩
theorem fa_append (w : World) (B : Nat) (v : Value) (l : List FaI) (f : FaI) (b : Nat) (h : FaOwn w B v l) (hl : l.length ≤ 5000) (hB : B ≤ w.heap.size) (c0 : w.cell? ⟨b, 0, none⟩ = some (.bool f.1)) (c1 : w.cell? ⟨b, 1, none⟩ = some (.int .i64 f.2.1)) (c2 : w.cell? ⟨b, 2, none⟩ = some (.int .i64 f.2.2)) :
    ∃ v' w', (Builtin.append_ #[22, 22] 22 #[v, .slice (some ⟨b, 0, none⟩) 1 1]).run Try.prog w = .ok v' w' ∧ FaOwn w' B v' (l ++ [f]) ∧ w.grownBy w' v.ownBlock := by
  obtain ⟨i0, hi, hz0, hz1, hz2⟩ := info_parts info_fate
  obtain ⟨v', w', hrun, h2, h3, _⟩ := run_append_own (P := Try.prog) w B 22 22 24 i0 _ 3 24 Try.underlying22 hi hz0 hz1 hz2 rfl (by decide) v l.length (rowC faIC l) h ⟨b, 0, none⟩ 1 1 (faIC f) rfl (fun j u hu => by
    rw [show (⟨b, 0, none⟩ : Addr).add j = ⟨b, j, none⟩ by unfold Addr.add; split <;> simp_all]
    match j, hu with
    | 0, hu => cases hu; exact c0
    | 1, hu => cases hu; exact c1
    | 2, hu => cases hu; exact c2) (by simp [faIC, Value.oneCell']) (by unfold maxLen; omega) (by omega) hB
  refine ⟨v', w', hrun, ?_, h3⟩
  unfold FaOwn
  rw [List.length_append, rowC_append]
  simpa [rowC] using h2
/-- The i-th packet. -/
def latP (k i : Nat) : Un := (k, i, 0, 0, ⟨#[UInt8.ofNat i]⟩)
def latL (k : Nat) : Nat → List Un
  | 0 => []
  | i + 1 => latP k i :: latL k i
theorem latL_mem {k : Nat} : ∀ {i : Nat} {y : Un}, y ∈ latL k i → y.1 = k ∧ y.2.1 < i
  | 0, _, h => by cases h
  | i + 1, y, h => by
    rcases List.mem_cons.1 h with rfl | h
    · exact ⟨rfl, Nat.lt_succ_self _⟩
    · have := latL_mem h
      exact ⟨this.1, by omega⟩
theorem latL_len (k : Nat) : ∀ i, (latL k i).length = i
  | 0 => rfl
  | i + 1 => by rw [latL, List.length_cons, latL_len k i]
theorem lat_ins (k i : Nat) : ins (latP k i) (latL k i) = latP k i :: latL k i := by
  rw [ins]
  cases i with
  | zero => rfl
  | succ i =>
    have : ahead (latP k i) (latP k (i + 1)) = false := by
      cases h : ahead (latP k i) (latP k (i + 1)) with
      | false => rfl
      | true => rw [ahead_iff] at h; simp only [latP] at h; omega
    rw [latL, List.takeWhile_cons, List.dropWhile_cons, this]
    rfl
def latF (k c : Nat) : List FaI := List.replicate c (false, 0, (k : Int))
def latS (k c i t : Nat) : NetS := ⟨1, t, i, (latF k c).map faN, latL k i⟩
theorem latF_ok {k c : Nat} (hk : k ≤ 100) : ∀ f ∈ latF k c, faOk f := by
  intro f hf
  rw [List.eq_of_mem_replicate hf]
  exact ⟨⟨by show (0 : Int) ≤ 0; decide, by show (0 : Int) ≤ 3; decide⟩, by show (0 : Int) ≤ k; omega, by show (k : Int) ≤ 100; omega⟩
theorem lat_send {k c i : Nat} (hi : i < c) (hc : c ≤ 20) : (latS k c i 0).send 0 0 ⟨#[UInt8.ofNat i]⟩ = (0, latS k c (i + 1) 0) := by
  have hf : (latS k c i 0).fate = (false, 0, k) := by
    have : ((latF k c).map faN)[i]? = some (false, 0, k) := by
      rw [latF, List.map_replicate, List.getElem?_replicate, if_pos hi]
      rfl
    unfold NetS.fate latS
    rw [List.getD_eq_getElem?_getD, this]
    rfl
  have hw : (latS k c i 0).way.length = i := latL_len k i
  rw [NetS.send, if_neg (by simp [NetS.isEnd, latS]), if_neg (by show ¬ 1048576 < 1; decide), hf, if_neg (by show ¬ (false = true); decide), if_neg (by rw [hw]; simp only; omega)]
  simp only [NetS.lay, latS, Nat.zero_add, Nat.add_zero]
  rw [show ((k, i, (0 : Int), (0 : Int), (⟨#[UInt8.ofNat i]⟩ : ByteArray)) : Un) = latP k i from rfl, lat_ins]
  rfl
theorem lat_wait {k c t : Nat} (ht : t < k) : (latS k c c t).next = (none, latS k c c t) := by
  unfold NetS.next
  split
  · rfl
  · next x r e =>
    have hx : x ∈ (latS k c c t).way := by rw [e]; exact List.mem_cons_self ..
    rw [if_pos]
    rw [(latL_mem hx).1]
    exact ht
/-- What is left when i of them have not come. -/
def latR (k c i : Nat) : NetS := ⟨1, k, c, (latF k c).map faN, latL k i⟩
theorem lat_come {k c i : Nat} : (latR k c (i + 1)).next = (some (0, 0, ⟨#[UInt8.ofNat i]⟩), latR k c i) := by
  show (if k < k then _ else _) = _
  rw [if_neg (Nat.lt_irrefl k)]
  rfl
theorem bytes1 (W : World) (b : Nat) (i : Nat) (hi : i < 256) (h : W.cell? ⟨b, 0, none⟩ = some (.int .u8 (i : Int))) :
    (convert 31 9 (.slice (some ⟨b, 0, none⟩) 1 1)).run Try.prog W = .ok (.string ⟨#[UInt8.ofNat i]⟩) W := by
  refine run_convert_bytes_back W 31 9 5 ⟨b, 0, none⟩ 1 [UInt8.ofNat i] Try.underlying31 Try.underlying5 Try.underlying9 (fun j hj => ?_)
  have h0 : j = 0 := by simp at hj; omega
  subst h0
  rw [Addr.add_lit, Nat.zero_add, h]
  simp
  omega
set_option maxHeartbeats 4000000 in
set_option maxRecDepth 100000 in
theorem NetLate_walk (x y : Nat) (w : World) (hx : x < 256) (hy : y < 256) :
    Calls Try.prog 3 #[.int .u8 x, .int .u8 y] w fun e w' => e = .returned (.bool true) ∧ Below w.heap.size w w' := by
  obtain ⟨k, hk⟩ : ∃ k : Nat, x % 101 = k := ⟨_, rfl⟩
  obtain ⟨c, hc⟩ : ∃ c : Nat, y % 20 + 1 = c := ⟨_, rfl⟩
  have hk1 : k ≤ 100 := by omega
  have hc1 : c ≤ 20 := by omega
  have hc0 : 1 ≤ c := by omega
  go_enter Try.func3, Try.ntmps3
  go_upto_region 3 with fail
  rw [show ((x : Int) % 101) = (k : Int) by omega, show ((y : Int) % 20 + 1) = (c : Int) by omega]
  clear hk hc hx hy
  go_wp2_with fail
  go_loopw [7, 8] (fun v i wr => ∃ j : Nat, j ≤ c ∧ i = .int .i64 j ∧ Hid (FaOwn wr w.heap.size v (latF k j)) ∧ Hid (Below w.heap.size w wr)) (fun _ i _ => c - (intOf i).toNat)
  case atStart => exact ⟨0, Nat.zero_le _, rfl, Lib.hid (World.ownsRow_nil _ _ _ _), Lib.hid (Below.refl _ _)⟩
  case round =>
    obtain ⟨j, hj, rfl, HF, HB⟩ := hrel
    by_cases hlt : j < c
    · obtain ⟨W2, hW2⟩ : ∃ W, wr.alloc (.cells #[.bool false, .int .i64 0, .int .i64 k] 24) = W := ⟨_, rfl⟩
      have hB2 : Below wr.heap.size wr W2 := by rw [← hW2]; exact (Below.refl _ _).alloc (Nat.le_refl _) _
      have hq : ∀ i v, (#[.bool false, .int .i64 0, .int .i64 k] : Array Value)[i]? = some v → W2.cell? ⟨wr.heap.size, i, none⟩ = some v := fun i v h => by rw [← hW2, World.cell?_alloc_mark]; exact h
      obtain ⟨v', w', hap, hrow, hgr⟩ := fa_append W2 w.heap.size _ _ (false, 0, (k : Int)) wr.heap.size (HF.out.below hB2) (by rw [latF, List.length_replicate]; omega) (Nat.le_trans HB.out.size hB2.size) (hq 0 _ rfl) (hq 1 _ rfl) (hq 2 _ rfl)
      rw [← hW2] at hap
      have HAP := Lib.hid hap
      have HB3 : Hid (Below w.heap.size w w') := Lib.hid ((HB.out.trans (hB2.mono HB.out.size)).grown hgr (Nat.le_trans HB.out.size hB2.size) (fun k hk => (HF.out.lt k hk).1))
      have HROW : Hid (FaOwn w' w.heap.size v' (latF k (j + 1))) := Lib.hid (by
        rw [latF, List.replicate_succ']
        exact hrow)
      clear hW2 hB2 hq hap hrow hgr
      go_wp2_with (at_builtin; refine wpList_append_run rfl _ _ 22 22 rfl _ _ rfl rfl HAP.out ?_)
      go_roundw
      case rel => exact ⟨j + 1, by omega, by go_num, HROW, HB3⟩
      case measure => simp [intOf]; omega
    · obtain rfl : j = c := by omega
      obtain ⟨a, cp, hv⟩ := HF.out.form
      subst hv
      have hll : (latF k j).length = j := List.length_replicate ..
      have hrw := HF.out.row
      rw [hll] at hrw
      rw [hll]
      have HNEW := Lib.hid (mine_new (w0 := w) 1 a j cp (latF k j) HB.out hrw (by omega) (by decide) (latF_ok hk1))
      clear hrw hll
      go_wp2_with fail
      refine HNEW.out.mono ?_; rintro e w1 ⟨p, rfl, hm⟩
      have HM1 : Hid (Mine w w1 p (latS k j 0 0)) := Lib.hid hm
      clear hm HNEW HB HF
      go_wp2_with fail
      go_loopw [11] (fun i wr => ∃ i' : Nat, i' ≤ j ∧ i = .int .i64 i' ∧ Hid (Mine w wr p (latS k j i' 0))) (fun i _ => j - (intOf i).toNat)
      case atStart => exact ⟨0, Nat.zero_le _, rfl, HM1⟩
      case round =>
        obtain ⟨i, hi, rfl, HM⟩ := hrel
        clear HM1
        by_cases hli : i < j
        · have hw8 : IntKind.u8.wrap (i : Int) = (i : Int) := by rw [IntKind.wrap_u8]; omega
          obtain ⟨W2, hW2⟩ : ∃ W, wr.alloc (.cells #[.int .u8 i] 5) = W := ⟨_, rfl⟩
          have hm2 := HM.out.below (show Below wr.heap.size wr W2 by rw [← hW2]; exact (Below.refl _ _).alloc (Nat.le_refl _) _)
          have hcv := bytes1 W2 wr.heap.size i (by omega) (by rw [← hW2, World.cell?_alloc_mark]; rfl)
          have HS := Lib.hid (mine_send 0 0 ⟨#[UInt8.ofNat i]⟩ (by show 1 ≤ _; decide) (lat_send hli hc1) ⟨by show 0 < _; decide, by show i < _; omega⟩ hm2)
          rw [← hW2] at hcv HS
          clear hW2 hm2
          go_wp2_with fail
          refine HS.out.mono ?_; rintro e w3 ⟨rfl, hm, _⟩
          have HM3 := Lib.hid hm
          clear hm HS hcv
          go_wp2_with fail
          go_roundw
          case rel => exact ⟨i + 1, by omega, by go_num, HM3⟩
          case measure => simp [intOf]; omega
        · obtain rfl : i = j := by omega
          go_wp2_with fail
          go_loopw [12] (fun t wr => ∃ t' : Nat, t' ≤ k ∧ t = .int .i64 t' ∧ Hid (Mine w wr p (latS k i i t'))) (fun t _ => k - (intOf t).toNat)
          case atStart => exact ⟨0, Nat.zero_le _, rfl, HM⟩
          case round =>
            obtain ⟨t, ht, rfl, HT⟩ := hrel
            clear HM
            by_cases hlk : t < k
            · have HNX := Lib.hid (mine_next (lat_wait (c := i) hlk) HT.out)
              go_wp2_with fail
              refine HNX.out.mono ?_; rintro e w3 ⟨rfl, hm, _⟩
              have HM3 := Lib.hid (hm.below ((Below.refl _ _).alloc (Nat.le_refl _) (.cells #[.int .i64 0, .int .i64 0, .string ⟨#[]⟩] 33)))
              clear hm HNX
              simp only [nextV, pkV, Option.isSome]
              go_wp2_with fail
              refine (mine_tick ⟨by show t < _; omega, by show i < _; omega⟩ HM3.out).mono ?_; rintro e w4 ⟨rfl, hm, _⟩
              have HM4 : Hid (Mine w w4 p (latS k i i (t + 1))) := Lib.hid hm
              clear hm
              go_wp2_with fail
              go_roundw
              case rel => exact ⟨t + 1, by omega, by go_num, HM4⟩
              case measure => simp [intOf]; omega
            · obtain rfl : t = k := by omega
              go_wp2_with fail
              go_loopw [15] (fun d wr => ∃ r : Nat, r ≤ i ∧ d = .int .i64 ((r : Int) - 1) ∧ Hid (Mine w wr p (latR t i r))) (fun d _ => (intOf d + 1).toNat)
              case atStart => exact ⟨i, Nat.le_refl _, rfl, HT⟩
              case round =>
                obtain ⟨r, hr, rfl, HR⟩ := hrel
                clear HT
                cases r with
                | succ r =>
                  have hrr : ((r + 1 : Nat) : Int) - 1 = (r : Int) := by omega
                  rw [hrr]
                  have HNX := Lib.hid (mine_next (lat_come (k := t) (c := i) (i := r)) HR.out)
                  go_wp2_with fail
                  refine HNX.out.mono ?_; rintro e w3 ⟨rfl, hm, _⟩
                  have hpk : PkAt (w3.alloc (.cells #[.int .i64 0, .int .i64 0, .string ⟨#[UInt8.ofNat r]⟩] 33)) w3.heap.size (0, 0, ⟨#[UInt8.ofNat r]⟩) := heap_alloc_new w3 _
                  have HM3 := Lib.hid (hm.below ((Below.refl _ _).alloc (Nat.le_refl _) (.cells #[.int .i64 0, .int .i64 0, .string ⟨#[UInt8.ofNat r]⟩] 33)))
                  simp only [nextV, pkV, Option.isSome]
                  go_upto_region 27 with fail
                  obtain ⟨W3, hW3⟩ : ∃ W, w3.alloc (.cells #[.int .i64 0, .int .i64 0, .string ⟨#[UInt8.ofNat r]⟩] 33) = W := ⟨_, rfl⟩
                  obtain ⟨xb, hxb⟩ : ∃ b, w3.heap.size = b := ⟨_, rfl⟩
                  rw [hW3] at HM3 hpk
                  rw [hxb] at hpk
                  rw [hW3]
                  try simp only [hxb]
                  have hx := hpk.cell
                  simp only at hx
                  have HM4 := Lib.hid (HM3.out.below ((Below.refl _ _).alloc (Nat.le_refl _) (.cells #[.int .u8 r] 5)))
                  have hcv := bytes1 (W3.alloc (.cells #[.int .u8 r] 5)) W3.heap.size r (by omega) (by rw [World.cell?_alloc_mark]; rfl)
                  have hw8 : IntKind.u8.wrap (r : Int) = (r : Int) := by rw [IntKind.wrap_u8]; omega
                  clear hm HNX hW3 hxb hpk hrr
                  go_wp2_with fail
                  go_roundw
                  case rel => exact ⟨r, by omega, by first | rfl | go_num, HM4⟩
                  case measure => simp [intOf]
                | zero =>
                  have hz : ((0 : Nat) : Int) - 1 = -1 := by omega
                  rw [hz]
                  have HLV := Lib.hid (fun W => lives_any W)
                  go_wp2_with fail
                  refine (HLV.out _).mono ?_; rintro e w9 ⟨rfl, hb⟩
                  have HB9 := Lib.hid (HR.out.1.trans (hb.mono HR.out.1.size))
                  clear hb
                  go_wp2_with fail
                  go_ret
                  exact ⟨rfl, HB9.out⟩
end Go.Proofs.Ytbmlgnmilolamaa
