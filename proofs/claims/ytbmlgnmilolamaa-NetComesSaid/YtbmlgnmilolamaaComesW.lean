/-
  'yanklinelaw24.NetComes': the walk. No statement is proved here.
-/
import Derived.Test.YtbmlgnmilolamaaComesM
import Derived.Test.YtbmlgnmilolamaaStpW
import Derived.StillTailTactics
import Derived.Deep.CutRange
import Derived.Deep.CutBlock
namespace Go.Proofs.Ytbmlgnmilolamaa
open Go.RowKit
/-- The first loop. -/
def Scr (w0 w : World) (p b1 b2 j : Nat) (fs : List FaI) : Prop := ∃ σ W E n, Comes w0 w p b1 b2 n σ W E ∧ Tally σ W E ∧ n ≤ 2 * j ∧ σ.now ≤ j ∧ σ.sent ≤ j ∧ σ.ends = 3 ∧ σ.fates = fs.map faN
theorem Scr.base {w0 w : World} {p b1 b2 j : Nat} {fs : List FaI} (h : Scr w0 w p b1 b2 j fs) : Below w0.heap.size w0 w := by
  obtain ⟨σ, W, E, n, h, _⟩ := h
  exact h.base
theorem Scr.below {w0 w w' : World} {p b1 b2 j : Nat} {fs : List FaI} (h : Scr w0 w p b1 b2 j fs) (hb : Below w.heap.size w w') : Scr w0 w' p b1 b2 j fs := by
  obtain ⟨σ, W, E, n, h, r⟩ := h
  exact ⟨σ, W, E, n, h.below hb, r⟩
/-- A fate in a block of its own. -/
def FtAt (w : World) (g : Nat) (f : Fa) : Prop := w.heap[g]? = some (.cells #[.bool f.1, .int .i64 f.2.1, .int .i64 f.2.2] 24 (0, 0))
theorem FtAt.kept {w w' : World} {g : Nat} {f : Fa} (h : FtAt w g f) (k : Kept w w') : FtAt w' g f := k _ _ _ _ h (by decide) (by decide)
theorem FtAt.below {w w' : World} {g : Nat} {f : Fa} (h : FtAt w g f) (k : Below w.heap.size w w') : FtAt w' g f := h.kept (Kept.of_below k)
theorem FtAt.get {w : World} {g : Nat} {f : Fa} (h : FtAt w g f) : w.cell? ⟨g, 0, none⟩ = some (.bool f.1) ∧ w.cell? ⟨g, 1, none⟩ = some (.int .i64 f.2.1) ∧ w.cell? ⟨g, 2, none⟩ = some (.int .i64 f.2.2) ∧ w.frozen? ⟨g, 0, none⟩ = false ∧ w.frozen? ⟨g, 1, none⟩ = false ∧ w.frozen? ⟨g, 2, none⟩ = false :=
  ⟨by rw [cell_of_row w g 0 _ _ _ h]; rfl, by rw [cell_of_row w g 1 _ _ _ h]; rfl, by rw [cell_of_row w g 2 _ _ _ h]; rfl, frozen_of_row w g 0 _ _ h, frozen_of_row w g 1 _ _ h, frozen_of_row w g 2 _ _ h⟩
theorem PkAt.get {w : World} {g : Nat} {q : Pk} (h : PkAt w g q) : w.cell? ⟨g, 0, none⟩ = some (.int .i64 q.1) ∧ w.cell? ⟨g, 1, none⟩ = some (.int .i64 q.2.1) ∧ w.cell? ⟨g, 2, none⟩ = some (.string q.2.2) :=
  ⟨by rw [cell_of_row w g 0 _ _ _ h]; rfl, by rw [cell_of_row w g 1 _ _ _ h]; rfl, by rw [cell_of_row w g 2 _ _ _ h]; rfl⟩
theorem PkAt.below {w w' : World} {g : Nat} {q : Pk} (h : PkAt w g q) (k : Below w.heap.size w w') : PkAt w' g q := h.kept (Kept.of_below k)
theorem fine_of_send {σ : NetS} {x y : Int} {s : ByteArray} (h : (σ.send x y s).1 = 0) (he : σ.ends ≤ 64) : PkFine (x, y, s) := by
  obtain ⟨i1, i2, i3, _⟩ := send_zero h
  have hx : x < 64 := by have := i1.2; omega
  have hy : y < 64 := by have := i2.2; omega
  exact ⟨⟨i1.1, hx⟩, ⟨i2.1, hy⟩, i3⟩
theorem upd_low {E : Pk → Option Int} {p : Pk} {c : Int} (h : ∀ e, E p = some e → c ≤ e) : ∀ q e, E q = some e → ∃ e', upd E p c q = some e' ∧ e' ≤ e := fun q e hq => by
  by_cases hp : q = p
  · subst hp
    exact ⟨c, by simp [upd], h e hq⟩
  · exact ⟨e, by simp [upd, hp, hq], Int.le_refl _⟩
theorem upd_bnd {E : Pk → Option Int} {p : Pk} {c : Int} (h : ∀ q e, E q = some e → 0 ≤ e ∧ e ≤ 1000000) (hc : 0 ≤ c ∧ c ≤ 1000000) : ∀ q e, upd E p c q = some e → 0 ≤ e ∧ e ≤ 1000000 := fun q e hq => by
  by_cases hp : q = p
  · simp only [upd, hp, if_true] at hq
    injection hq with hq
    omega
  · simp only [upd, hp, if_false] at hq
    exact h q e hq
/-- What the first loop knows of the net. -/
def ScrX (n j : Nat) (fs : List FaI) (σ : NetS) : Prop := n ≤ 2 * j ∧ σ.now ≤ j ∧ σ.sent ≤ j ∧ σ.ends = 3 ∧ σ.fates = fs.map faN ∧ Small σ
theorem scr_not {w0 w : World} {p b1 b2 j n : Nat} {fs : List FaI} {σ : NetS} {W E : Pk → Option Int} {x y : Int} {s : ByteArray} (hx : ScrX n j fs σ) (t : Tally σ W E) (h : (σ.send x y s).1 ≠ 0) (hc : Comes w0 w p b1 b2 n (σ.send x y s).2 W E) : Scr w0 w p b1 b2 (j + 1) fs := by
  rw [send_not h] at hc
  obtain ⟨x1, x2, x3, x4, x5, _⟩ := hx
  exact ⟨σ, W, E, n, hc, t, by omega, by omega, by omega, x4, x5⟩
theorem scr_drop {w0 w : World} {p b1 b2 j n : Nat} {fs : List FaI} {σ : NetS} {W E : Pk → Option Int} {x y : Int} {s : ByteArray} (hx : ScrX n j fs σ) (t : Tally σ W E) (h : (σ.send x y s).1 = 0) (hd : σ.fate.1 = true) (hc : Comes w0 w p b1 b2 n (σ.send x y s).2 W E) : Scr w0 w p b1 b2 (j + 1) fs := by
  obtain ⟨x1, x2, x3, x4, x5, _⟩ := hx
  obtain ⟨_, _, _, ⟨_, e⟩ | ⟨e, _⟩⟩ := send_zero h
  · obtain ⟨k1, k2, k3, k4⟩ := send_keeps σ x y s
    exact ⟨_, W, E, n, hc, t.same (by rw [e]), by omega, by omega, by omega, by rw [k4, x4], by rw [k2, x5]⟩
  · rw [hd] at e; cases e
theorem scr_send {w0 w : World} {p b1 b2 j n m : Nat} {fs : List FaI} {σ : NetS} {W E E' : Pk → Option Int} {x y : Int} {s : ByteArray} (hx : ScrX n j fs σ) (t : Tally σ W E) (h : (σ.send x y s).1 = 0) (hd : σ.fate.1 = false)
    (hc : Comes w0 w p b1 b2 m (σ.send x y s).2 (upd W (x, y, s) ((W (x, y, s)).getD 0 + σ.fate.2.1 + 1)) E') (hm : m ≤ n + 2)
    (h1 : ∃ e, E' (x, y, s) = some e ∧ e ≤ (σ.now : Int) + σ.fate.2.2) (h2 : ∀ q e, E q = some e → ∃ e', E' q = some e' ∧ e' ≤ e) (h3 : ∀ p e, E' p = some e → 0 ≤ e ∧ e ≤ 1000000) : Scr w0 w p b1 b2 (j + 1) fs := by
  obtain ⟨x1, x2, x3, x4, x5, _⟩ := hx
  obtain ⟨k1, k2, k3, k4⟩ := send_keeps σ x y s
  exact ⟨_, _, E', m, hc, t.send (by omega) h hd h1 h2 h3, by omega, by omega, by omega, by rw [k4, x4], by rw [k2, x5]⟩
theorem come_time2 {w0 w : World} {p b1 b2 n : Nat} {σ : NetS} {W E : Pk → Option Int} (h : Comes w0 w p b1 b2 n σ W E) :
    Calls Try.prog 11 #[.pointer (some ⟨p, 0, none⟩)] w fun e w' => e = .returned (.int .i64 σ.now) ∧ w' = w :=
  (come_time h).mono fun _ _ ⟨he, hw⟩ => ⟨he, hw.symm⟩
/-- The second loop, and the one within it. -/
def Inn (w0 w : World) (p b1 b2 : Nat) (E : Pk → Option Int) (T0 j : Nat) : Prop := ∃ σ W n, Comes w0 w p b1 b2 n σ W E ∧ Tally σ W E ∧ n + σ.way.length ≤ 5000 ∧ σ.now = T0 + j ∧ ∀ x ∈ σ.way, x.1 ≤ T0 + 103
def Out (w0 w : World) (p b1 b2 : Nat) (E : Pk → Option Int) (T0 j : Nat) : Prop := ∃ σ W n, Comes w0 w p b1 b2 n σ W E ∧ Tally σ W E ∧ n + σ.way.length ≤ 5000 ∧ σ.now = T0 + j ∧ (∀ x ∈ σ.way, x.1 ≤ T0 + 103) ∧ (0 < j → ∀ x ∈ σ.way, T0 + j ≤ x.1)
theorem Out.inn {w0 w : World} {p b1 b2 : Nat} {E : Pk → Option Int} {T0 j : Nat} (h : Out w0 w p b1 b2 E T0 j) : Inn w0 w p b1 b2 E T0 j := by
  obtain ⟨σ, W, n, h1, h2, h3, h4, h5, _⟩ := h
  exact ⟨σ, W, n, h1, h2, h3, h4, h5⟩
theorem agg_next (o : Option Pk) : ∃ q : Pk, nextV o = .agg #[.int .i64 q.1, .int .i64 q.2.1, .string q.2.2] ∧ ∀ q', o = some q' → q = q' := by
  cases o with
  | none => exact ⟨(0, 0, ⟨#[]⟩), rfl, fun _ h => by cases h⟩
  | some q => exact ⟨q, rfl, fun _ h => by injection h⟩
theorem want_zero {D : DataW Unit} {σ : NetS} {W E : Pk → Option Int} (hD : ∀ p kl, keyOf Try.prog 33 (pkV p) = some kl → (W p = none → Maps.has D kl = false) ∧ ∀ c, W p = some c → ∀ z, D.atKey kl z = .lit (.int .i64 c))
    (hall : ∀ kl, Maps.has D kl = true → ∃ p, keyOf Try.prog 33 (pkV p) = some kl) (t : Tally σ W E) (hw : σ.way = []) {kl : Lit} {c : Int} {y : DataW Unit} {pl : List MemPlace} (hy : plainElem Try.prog 3 (.int .i64 c) = some (y, pl)) (hat : ∀ zd, D.atKey kl zd = y) : c = 0 := by
  have hh := Maps.has_true_of_atKey hat
  obtain ⟨p, hp⟩ := hall kl hh
  obtain ⟨h1, h2⟩ := hD p kl hp
  obtain ⟨a, ha, hz, _⟩ := plainElem_int_inv Try.underlying3 hy
  injection ha with _ ha
  injection hz with hz _
  have h3 := t.want p
  rw [hw] at h3
  cases hW : W p with
  | none =>
    rw [h1 hW] at hh
    cases hh
  | some c' =>
    have h4 := (h2 c' hW (.lit (.bool false))).symm.trans (hat _)
    rw [hz] at h4
    injection h4 with h4
    injection h4 with _ h4
    rw [hW] at h3
    have h5 : c' = 0 := h3
    omega
theorem put_fate {w0 wr W1 : World} {p b1 b2 n t : Nat} {σ : NetS} {W E : Pk → Option Int} {d x y : Int} {s : ByteArray} {f0 : Fa} (h : Comes w0 wr p b1 b2 n σ W E) (hb : Below wr.heap.size wr W1) (ht : wr.heap.size = t) (hf : FtAt W1 (t + 1) f0) (hs : StpAt W1 t d x y s) (f : Fa) :
    FtAt (((W1.setCell ⟨t + 1, 0, none⟩ (.bool f.1)).setCell ⟨t + 1, 1, none⟩ (.int .i64 f.2.1)).setCell ⟨t + 1, 2, none⟩ (.int .i64 f.2.2)) (t + 1) f ∧ StpAt (((W1.setCell ⟨t + 1, 0, none⟩ (.bool f.1)).setCell ⟨t + 1, 1, none⟩ (.int .i64 f.2.1)).setCell ⟨t + 1, 2, none⟩ (.int .i64 f.2.2)) t d x y s ∧
      Comes w0 (((W1.setCell ⟨t + 1, 0, none⟩ (.bool f.1)).setCell ⟨t + 1, 1, none⟩ (.int .i64 f.2.1)).setCell ⟨t + 1, 2, none⟩ (.int .i64 f.2.2)) p b1 b2 n σ W E := by
  have hO : Only (fun k => k = t + 1) W1 (((W1.setCell ⟨t + 1, 0, none⟩ (.bool f.1)).setCell ⟨t + 1, 1, none⟩ (.int .i64 f.2.1)).setCell ⟨t + 1, 2, none⟩ (.int .i64 f.2.2)) :=
    Only.setCell (Only.setCell (Only.setCell (Only.refl (fun k => k = t + 1) W1) ⟨t + 1, 0, none⟩ (.bool f.1) (.inl rfl)) ⟨t + 1, 1, none⟩ (.int .i64 f.2.1) (.inl rfl)) ⟨t + 1, 2, none⟩ (.int .i64 f.2.2) (.inl rfl)
  have hbt := hb.size
  refine ⟨?_, hO.heap hs (by omega), h.below (hb.trans (hO.below hb.size (fun k hk => by rw [hk]; omega)))⟩
  unfold FtAt
  rw [heap_setCell_same _ _ _ _ _ _ (heap_setCell_same _ _ _ _ _ _ (heap_setCell_same _ _ _ _ _ _ hf))]
  rfl
set_option maxHeartbeats 8000000 in
set_option maxRecDepth 100000 in
theorem NetComes_walk (a : Option Addr) (len cap : Nat) (fs : List FaI) (a2 : Option Addr) (len2 cap2 : Nat) (ss : List Stp) (w : World) (hf : FaRow w a len fs) (hs : StpRow w a2 len2 ss) :
    Calls Try.prog 4 #[.slice a len cap, .slice a2 len2 cap2] w fun e w' => e = .returned (.bool true) ∧ Below w.heap.size w w' := by
  have HF := Lib.hid hf
  have HSS := Lib.hid hs
  have HLV := Lib.hid (fun W => lives_any W)
  clear hf hs
  go_enter Try.func4, Try.ntmps4
  by_cases hbig : 120 < len2 ∨ 500 < len
  · by_cases h1 : 120 < len2
    · have h1 : decide ((120 : Int) < (len2 : Int)) = true := decide_eq_true (by omega)
      clear hbig
      go_wp2_with fail
      refine (HLV.out _).mono ?_; rintro e w9 ⟨rfl, hb9⟩
      go_wp2_with fail
      go_ret
      exact ⟨rfl, hb9⟩
    · have h1 : decide ((120 : Int) < (len2 : Int)) = false := decide_eq_false (by omega)
      have h2 : decide ((500 : Int) < (len : Int)) = true := decide_eq_true (by omega)
      clear hbig
      go_wp2_with fail
      refine (HLV.out _).mono ?_; rintro e w9 ⟨rfl, hb9⟩
      go_wp2_with fail
      go_ret
      exact ⟨rfl, hb9⟩
  have h1 : decide ((120 : Int) < (len2 : Int)) = false := decide_eq_false (by omega)
  have h2 : decide ((500 : Int) < (len : Int)) = false := decide_eq_false (by omega)
  have HN := Lib.hid (show len2 ≤ 120 ∧ len ≤ 500 by omega)
  clear hbig
  have HNEW := Lib.hid (New_at 3 a len cap fs w HF.out (by have := HN.out; omega))
  go_wp2_with fail
  refine HNEW.out.mono ?_; rintro e w1 ⟨hb1, hE⟩
  have HB1 := Lib.hid hb1
  clear hb1 HNEW
  rcases hE with ⟨_, hok, _, _, p, fv, rfl, hp, hN, hfr⟩ | ⟨at_, b, _, rfl, _⟩
  rotate_left
  · go_wp2_with fail
    refine (HLV.out _).mono ?_; rintro e w9 ⟨rfl, hb9⟩
    have HB9 := Lib.hid (HB1.out.trans (hb9.mono HB1.out.size))
    clear hb9
    go_wp2_with fail
    go_ret
    exact ⟨rfl, HB9.out⟩
  have HOK := Lib.hid hok
  have HM1 : Hid (Mine w w1 p ⟨3, 0, 0, fs.map faN, []⟩) := Lib.hid ⟨HB1.out, fresh_ok _ _ hok, hp, fv, _, hN, fun g hg => by cases hg⟩
  clear hok hp hN hfr
  have mk : ∀ W, (Instr.makeMap 40 none).run Try.prog W = .ok (.map (some W.heap.size)) (W.alloc (.map #[] 0)) := fun W => run_makeMap _ W
  go_wp2_with fail
  have HS0 : Hid (Scr w ((w1.alloc (.map #[] 0)).alloc (.map #[] 0)) p w1.heap.size (w1.heap.size + 1) 0 fs) := Lib.hid (by
    have hba : Below w1.heap.size w1 (w1.alloc (.map #[] 0)) := (Below.refl _ _).alloc (Nat.le_refl _) _
    have hbb : Below (w1.alloc (.map #[] 0)).heap.size (w1.alloc (.map #[] 0)) ((w1.alloc (.map #[] 0)).alloc (.map #[] 0)) := (Below.refl _ _).alloc (Nat.le_refl _) _
    have hsz : (w1.alloc (.map #[] 0)).heap.size = w1.heap.size + 1 := World.size_alloc _ _
    have hm2 := MapAt.made (w1.alloc (.map #[] 0))
    rw [hsz] at hm2
    refine ⟨⟨3, 0, 0, fs.map faN, []⟩, fun _ => none, fun _ => none, 0, ⟨(HM1.out.below hba).below hbb, (MapAt.made w1).below hbb, hm2, by omega, HB1.out.size, by have := HB1.out.size; omega⟩, Tally.start _ rfl, Nat.le_refl _, Nat.le_refl _, Nat.le_refl _, rfl, rfl⟩)
  clear mk
  obtain ⟨b1, hb1⟩ : ∃ b, w1.heap.size = b := ⟨_, rfl⟩
  rw [hb1] at HS0
  simp only [hb1]
  clear hb1
  go_loopw [9, 10, 11, 12, 13, 14] (fun i _ _ _ _ _ wr => ∃ j : Nat, i = .int .i64 j ∧ j ≤ len2 ∧ Hid (Scr w wr p b1 (b1 + 1) j fs)) (fun i _ _ _ _ _ _ => len2 - (intOf i).toNat)
  case atStart => exact ⟨0, rfl, Nat.zero_le _, HS0⟩
  case round =>
    obtain ⟨j, rfl, hj, HSC⟩ := hrel
    clear HS0 HM1
    by_cases hlt : j < len2
    · have h120 : len2 ≤ 120 := HN.out.1
      have hjn : (j : Int) < (len2 : Int) := by omega
      obtain ⟨bb, off, d, x, y, s, rfl, hss, c0, c1, c2, c3⟩ := (HSS.out.below HSC.out.base).at hlt
      have HSZ := Lib.hid hss
      clear hss
      go_upto_block 1 with fail
      have HJ := Lib.hid hjn
      have HLT := Lib.hid hlt
      clear hjn hlt hj
      go_cut [10, 11, 12, 13, 14] from 41 to 121 (fun _ _ _ _ _ wx => Hid (Scr w wx p b1 (b1 + 1) (j + 1) fs))
      case first =>
        obtain ⟨σ, W, E, n, hC, hT, hn, hnow, hsent, hends, hfat⟩ := HSC.out
        have HC := Lib.hid hC
        have HT := Lib.hid hT
        have HX : Hid (ScrX n j fs σ) := Lib.hid ⟨hn, hnow, hsent, hends, hfat, by have := HLT.out; unfold Small; omega⟩
        clear hC hT hn hnow hsent hends hfat
        have HST0 : Hid (StpAt (wr.alloc (.cells #[.int .i64 d, .int .i64 x, .int .i64 y, .string s] 42)) wr.heap.size d x y s) := Lib.hid (heap_alloc_new _ _)
        have HC0 := Lib.hid (HC.out.below ((Below.refl _ _).alloc (Nat.le_refl _) (.cells #[.int .i64 d, .int .i64 x, .int .i64 y, .string s] 42)))
        by_cases hd : d = 2
        · subst hd
          have HTK := Lib.hid (come_tick HX.out.2.2.2.2.2.1 HC0.out)
          go_wp2_with fail
          refine HTK.out.mono ?_; rintro e w2 ⟨rfl, hc2, _⟩
          have HQ : Hid (Scr w w2 p b1 (b1 + 1) (j + 1) fs) := Lib.hid (by
            obtain ⟨z1, z2, z3, z4, z5, _⟩ := HX.out
            exact ⟨σ.tick, W, E, n, hc2, HT.out.same rfl, by omega, Nat.succ_le_succ z2, Nat.le_succ_of_le z3, z4, z5⟩)
          clear hc2 HTK
          go_wp2_with fail
          go_meet
          exact HQ
        · go_upto_region 15 with fail
          have HB2 : Hid (Below (wr.alloc (.cells #[.int .i64 d, .int .i64 x, .int .i64 y, .string s] 42)).heap.size (wr.alloc (.cells #[.int .i64 d, .int .i64 x, .int .i64 y, .string s] 42)) ((wr.alloc (.cells #[.int .i64 d, .int .i64 x, .int .i64 y, .string s] 42)).alloc (.cells #[.bool false, .int .i64 0, .int .i64 0] 24))) := Lib.hid ((Below.refl _ _).alloc (Nat.le_refl _) _)
          have HST1 := Lib.hid (HST0.out.below HB2.out)
          have HC1 := Lib.hid (HC0.out.below HB2.out)
          have HFT1 : Hid (FtAt ((wr.alloc (.cells #[.int .i64 d, .int .i64 x, .int .i64 y, .string s] 42)).alloc (.cells #[.bool false, .int .i64 0, .int .i64 0] 24)) (wr.heap.size + 1) (false, 0, 0)) := Lib.hid (by
            have h := heap_alloc_new (wr.alloc (.cells #[.int .i64 d, .int .i64 x, .int .i64 y, .string s] 42)) (.cells #[.bool false, .int .i64 0, .int .i64 0] 24)
            rw [World.size_alloc] at h
            exact h)
          have hbw : Below wr.heap.size wr ((wr.alloc (.cells #[.int .i64 d, .int .i64 x, .int .i64 y, .string s] 42)).alloc (.cells #[.bool false, .int .i64 0, .int .i64 0] 24)) := ((Below.refl _ _).alloc (Nat.le_refl _) _).alloc (by rw [World.size_alloc]; omega) _
          obtain ⟨t, ht⟩ : ∃ t, wr.heap.size = t := ⟨_, rfl⟩
          obtain ⟨W1, hW1⟩ : ∃ W, ((wr.alloc (.cells #[.int .i64 d, .int .i64 x, .int .i64 y, .string s] 42)).alloc (.cells #[.bool false, .int .i64 0, .int .i64 0] 24)) = W := ⟨_, rfl⟩
          rw [hW1] at HC1
          rw [hW1, ht] at HST1 HFT1
          rw [hW1] at hbw
          have HBW := Lib.hid hbw
          simp only [hW1, ht]
          have HWT : Hid (w.heap.size ≤ t) := Lib.hid (by rw [← ht]; exact HSC.out.base.size)
          have HTT := Lib.hid ht
          clear hW1 ht hbw HB2 HC0 HST0 c0 c1 c2 c3
          go_cut [61] from 41 to 121 (fun c wx => c = .bool (decide (σ.sent < len)) ∧ wx = W1)
          case first =>
            go_wp2_with fail
            refine (come_sent HC1.out).mono ?_; rintro e w' ⟨rfl, rfl⟩
            go_wp2_with fail
            go_meet
            exact ⟨by simp, rfl⟩
          case rest =>
          obtain ⟨rfl, rfl⟩ := hcut
          go_upto_if 61 with fail
          go_cut [13] from 41 to 121 (fun _ wx => Hid (FtAt wx (t + 1) σ.fate ∧ StpAt wx t d x y s ∧ Comes w wx p b1 (b1 + 1) n σ W E))
          case first =>
            by_cases hsl : σ.sent < len
            · have hs2 : decide (σ.sent < len) = true := decide_eq_true hsl
              obtain ⟨gb, go, f, rfl, hff, g0, g1, g2⟩ := (HF.out.below HC1.out.base).at hsl
              rw [fate_in HX.out.2.2.2.2.1 HOK.out (by rw [HF.out.1]; exact hsl)] at hff
              injection hff with hff
              subst hff
              obtain ⟨f0, f1, f2, f3, f4, f5⟩ := HFT1.out.get
              have HQ := Lib.hid (put_fate HC.out HBW.out HTT.out HFT1.out HST1.out σ.fate)
              have HS := Lib.hid (come_sent HC1.out)
              simp only at g0 g1 g2
              have hlen : (σ.sent : Int) < (len : Int) := by omega
              go_wp2_with fail
              refine HS.out.mono ?_; rintro e w' ⟨rfl, rfl⟩
              go_wp2_with fail
              go_meet
              exact HQ
            · have hs2 : decide (σ.sent < len) = false := decide_eq_false hsl
              have HQ : Hid (FtAt wc (t + 1) σ.fate ∧ StpAt wc t d x y s ∧ Comes w wc p b1 (b1 + 1) n σ W E) := Lib.hid ⟨by rw [fate_out HX.out.2.2.2.2.1 (by rw [HF.out.1]; omega)]; exact HFT1.out, HST1.out, HC1.out⟩
              go_wp2_with fail
              go_meet
              exact HQ
          case rest =>
            obtain ⟨hft, hst, hc2⟩ := hcut.out
            obtain ⟨u, hu⟩ : ∃ u, wc.heap.size = u := ⟨_, rfl⟩
            have hbu : Below wc.heap.size wc (wc.alloc (.cells #[.int .i64 x, .int .i64 y, .string s] 33)) := (Below.refl _ _).alloc (Nat.le_refl _) _
            have hpk : PkAt (wc.alloc (.cells #[.int .i64 x, .int .i64 y, .string s] 33)) u (x, y, s) := by rw [← hu]; exact heap_alloc_new _ _
            obtain ⟨s0, s1, s2, s3⟩ := hst.get
            have HFT := Lib.hid (hft.below hbu)
            have HST2 := Lib.hid (hst.below hbu)
            have HC2 := Lib.hid (hc2.below hbu)
            have HPK := Lib.hid hpk
            clear hft hst hc2 hbu hpk hcut HFT1 HST1 HC1 HC HBW
            go_upto_region 18 with fail
            try simp only [hu]
            obtain ⟨W2, hW2⟩ : ∃ V, wc.alloc (.cells #[.int .i64 x, .int .i64 y, .string s] 33) = V := ⟨_, rfl⟩
            rw [hW2] at HFT HST2 HC2 HPK
            simp only [hW2]
            clear hW2 hu s0 s1 s2 s3
            obtain ⟨s0, s1, s2, s3⟩ := HST2.out.get
            have HSD := Lib.hid (come_send x y s HSZ.out HX.out.2.2.2.2.2 HC2.out)
            go_wp2_with fail
            refine HSD.out.mono ?_; rintro e w3 ⟨hc3, hk3, ⟨hz, rfl⟩ | ⟨hz, b, rfl⟩⟩
            · have HC3 := Lib.hid hc3
              have HFT3 := Lib.hid (HFT.out.kept hk3)
              have HPK3 : Hid (PkAt w3 u (x, y, s)) := Lib.hid (HPK.out.kept hk3)
              clear hc3 hk3 HSD s0 s1 s2 s3
              obtain ⟨g0, _, g2, _⟩ := HFT3.out.get
              obtain ⟨p0, p1, p2⟩ := HPK3.out.get
              by_cases hfd : σ.fate.1 = true
              · rw [hfd] at g0
                have HQ : Hid (Scr w w3 p b1 (b1 + 1) (j + 1) fs) := Lib.hid (scr_drop HX.out HT.out hz hfd HC3.out)
                clear g2 p0 p1 p2
                go_wp2_with fail
                go_meet
                exact HQ
              · have hfd : σ.fate.1 = false := by simpa using hfd
                rw [hfd] at g0
                have HFI := Lib.hid (fine_of_send hz (by rw [HX.out.2.2.2.1]; decide))
                have hlk := HC3.out.m2.look_ok (x, y, s) HFI.out
                simp only [pkV] at hlk
                have HAW : Hid ((σ.now : Int) + σ.fate.2.2 ≤ 1000 ∧ 0 ≤ (σ.now : Int) + σ.fate.2.2) := Lib.hid (by
                  have h5 := (fate_ok HC2.out.mine.2.1).2
                  obtain ⟨_, z2, _⟩ := HX.out
                  have := HLT.out
                  omega)
                have HCW : Hid (0 ≤ (W (x, y, s)).getD 0 ∧ (W (x, y, s)).getD 0 ≤ 4096 ∧ σ.fate.2.1 ≤ 3) := Lib.hid (by
                  have h5 := (fate_ok HC2.out.mine.2.1).1
                  have h6 := HT.out.want (x, y, s)
                  have h7 := cnt_le (x, y, s) σ.way
                  have h8 := HC2.out.mine.2.1.len
                  omega)
                have HWB : Hid (-9223372036854775808 ≤ (W (x, y, s)).getD 0 + σ.fate.2.1 + 1 ∧ (W (x, y, s)).getD 0 + σ.fate.2.1 + 1 ≤ 9223372036854775807) := Lib.hid (by
                  have := HCW.out
                  omega)
                have HWR : Hid (IntKind.i64.wrap ((W (x, y, s)).getD 0 + (σ.fate.2.1 : Int)) = (W (x, y, s)).getD 0 + (σ.fate.2.1 : Int) ∧ IntKind.i64.wrap ((W (x, y, s)).getD 0 + (σ.fate.2.1 : Int) + 1) = (W (x, y, s)).getD 0 + (σ.fate.2.1 : Int) + 1) := Lib.hid (by
                  have := HCW.out
                  rw [IntKind.wrap_i64, IntKind.wrap_i64]
                  omega)
                have hwn : IntKind.i64.wrap ((σ.now : Int) + (σ.fate.2.2 : Int)) = (σ.now : Int) + (σ.fate.2.2 : Int) := by rw [IntKind.wrap_i64]; have := HAW.out; omega
                cases hE : E (x, y, s) with
                | none =>
                  rw [hE] at hlk
                  simp only [Option.getD_none, Option.isSome_none] at hlk
                  have hlow : ∀ e, E (x, y, s) = some e → (σ.now : Int) + σ.fate.2.2 ≤ e := fun e h => by rw [hE] at h; cases h
                  go_upto_region 20 with fail
                  refine wp_region_bof (by kernel_rfl) (by kernel_rfl) ?_
                  repeat (go_big_quiet_step (fail))
                  refine wpQuiet_nil ?_
                  intro w4 hw4
                  have hb4 := bof_below hw4
                  have HC4 := Lib.hid (HC3.out.below hb4)
                  have HPK4 := Lib.hid (HPK3.out.below hb4)
                  have HFT4 := Lib.hid (HFT3.out.below hb4)
                  clear hw4 hb4 p0 p1 p2 g0 hlk
                  go_upto_region 21 with fail
                  refine wp_region_still_tail 7 (by kernel_rfl) (by kernel_rfl) ?_
                  change wpStill _ _ w4.drew (fun a' => wpList _ _ _ _ a' w4.drew) _ _
                  obtain ⟨w5, hw5⟩ : ∃ V, w4.drew = V := ⟨_, rfl⟩
                  have hbv : Below w4.heap.size w4 w5 := by rw [← hw5]; exact below_drewN (Below.refl _ _) 1
                  have HC5 := Lib.hid (HC4.out.below hbv)
                  have HPK5 := Lib.hid (HPK4.out.below hbv)
                  have HFT5 := Lib.hid (HFT4.out.below hbv)
                  obtain ⟨p0, p1, p2⟩ := HPK5.out.get
                  obtain ⟨_, _, g2, _⟩ := HFT5.out.get
                  obtain ⟨w6, hrun, hc6, ho6⟩ := HC5.out.put2 (x, y, s) HFI.out ((σ.now : Int) + σ.fate.2.2) (by have := HAW.out; omega) (by have := HX.out.1; have := HLT.out; omega)
                  simp only [pkV] at hrun
                  have HTM := Lib.hid (come_time2 HC5.out)
                  rw [(send_keeps σ x y s).1] at HTM
                  have HC6 := Lib.hid hc6
                  have HPK6 : Hid (PkAt w6 u (x, y, s)) := Lib.hid (row_put ho6 HPK5.out HC5.out.m2)
                  have HFT6 : Hid (FtAt w6 (t + 1) σ.fate) := Lib.hid (row_put ho6 HFT5.out HC5.out.m2)
                  rw [hw5]
                  clear hw5 hbv hc6 ho6
                  simp only [List.take_succ_cons, List.take_zero, List.drop_succ_cons, List.drop_zero]
                  repeat (first | still_step | still_call HTM.out)
                  refine wpStill_nil ?_
                  go_wp2_with fail
                  clear hrun p0 p1 p2 g2
                  go_upto_region 22 with fail
                  refine wp_region_still_tail 9 (by kernel_rfl) (by kernel_rfl) ?_
                  change wpStill _ _ w6.drew (fun a' => wpList _ _ _ _ a' w6.drew) _ _
                  obtain ⟨v5, hv5⟩ : ∃ V, w6.drew = V := ⟨_, rfl⟩
                  have hbv : Below w6.heap.size w6 v5 := by rw [← hv5]; exact below_drewN (Below.refl _ _) 1
                  have HCV := Lib.hid (HC6.out.below hbv)
                  obtain ⟨p0, p1, p2⟩ := (HPK6.out.below hbv).get
                  obtain ⟨_, g1, _⟩ := (HFT6.out.below hbv).get
                  have hlk2 := HCV.out.m1.look (x, y, s) HFI.out
                  obtain ⟨v6, hrun, hc6, ho6⟩ := HCV.out.put1 (x, y, s) HFI.out ((W (x, y, s)).getD 0 + σ.fate.2.1 + 1) HWB.out (by have := HX.out.1; have := HLT.out; omega)
                  simp only [pkV] at hlk2 hrun
                  have HQ : Hid (Scr w v6 p b1 (b1 + 1) (j + 1) fs) := Lib.hid (scr_send HX.out HT.out hz hfd hc6 (by omega) ⟨_, by simp [upd], Int.le_refl _⟩ (upd_low hlow) (upd_bnd HT.out.early (by have := HAW.out; omega)))
                  rw [hv5]
                  clear hv5 hbv hc6 ho6
                  have hwr1 := HWR.out.1
                  have hwr2 := HWR.out.2
                  simp only [List.take_succ_cons, List.take_zero, List.drop_succ_cons, List.drop_zero]
                  repeat still_step
                  refine wpStill_nil ?_
                  go_wp2_with fail
                  go_meet
                  exact HQ
                | some e0 =>
                  rw [hE] at hlk
                  simp only [Option.getD_some, Option.isSome_some] at hlk
                  by_cases hlt0 : (σ.now : Int) + σ.fate.2.2 < e0
                  · have hlow : ∀ e, E (x, y, s) = some e → (σ.now : Int) + σ.fate.2.2 ≤ e := fun e h => by rw [hE] at h; injection h with h; omega
                    have hdc : decide ((σ.now : Int) + (σ.fate.2.2 : Int) < e0) = true := decide_eq_true hlt0
                    go_upto_region 20 with fail
                    have q0 := bof_cell p0
                    have q1 := bof_cell p1
                    have q2 := bof_cell p2
                    have q3 := bof_cell g2
                    have q4 : ∀ r : BOf w3, (Instr.lookup 40 (.map (some (b1 + 1))) (.agg #[.int .i64 x, .int .i64 y, .string s]) false).run Try.prog r.W = .ok (.int .i64 e0) r.W := fun r => by
                      have h := (HC3.out.below r.h).m2.look (x, y, s) HFI.out
                      simp only [pkV, hE, Option.getD_some] at h
                      exact h
                    have HT4 : Hid (∀ r : BOf w3, Calls Try.prog 11 #[.pointer (some ⟨p, 0, none⟩)] r.W fun e w' => e = .returned (.int .i64 σ.now) ∧ ∃ z : BOf w3, w' = z.W) := Lib.hid (fun r => bof_call ((come_time (HC3.out.below r.h)).mono fun _ _ ⟨he, hw⟩ => ⟨by rw [he, (send_keeps σ x y s).1], by rw [← hw]; exact Below.refl _ _⟩))
                    clear p0 p1 p2 g2
                    refine wp_region_bof (by kernel_rfl) (by kernel_rfl) ?_
                    repeat (go_big_quiet_step (first | (go_at_call 11; exact HT4.out _)))
                    refine wpQuiet_nil ?_
                    intro w4 hw4
                    have hb4 := bof_below hw4
                    have HC4 := Lib.hid (HC3.out.below hb4)
                    have HPK4 := Lib.hid (HPK3.out.below hb4)
                    have HFT4 := Lib.hid (HFT3.out.below hb4)
                    clear hw4 hb4 q0 q1 q2 q3 q4 g0 hlk
                    go_upto_region 21 with fail
                    refine wp_region_still_tail 7 (by kernel_rfl) (by kernel_rfl) ?_
                    change wpStill _ _ w4.drew (fun a' => wpList _ _ _ _ a' w4.drew) _ _
                    obtain ⟨w5, hw5⟩ : ∃ V, w4.drew = V := ⟨_, rfl⟩
                    have hbv : Below w4.heap.size w4 w5 := by rw [← hw5]; exact below_drewN (Below.refl _ _) 1
                    have HC5 := Lib.hid (HC4.out.below hbv)
                    have HPK5 := Lib.hid (HPK4.out.below hbv)
                    have HFT5 := Lib.hid (HFT4.out.below hbv)
                    obtain ⟨p0, p1, p2⟩ := HPK5.out.get
                    obtain ⟨_, _, g2, _⟩ := HFT5.out.get
                    obtain ⟨w6, hrun, hc6, ho6⟩ := HC5.out.put2 (x, y, s) HFI.out ((σ.now : Int) + σ.fate.2.2) (by have := HAW.out; omega) (by have := HX.out.1; have := HLT.out; omega)
                    simp only [pkV] at hrun
                    have HTM := Lib.hid (come_time2 HC5.out)
                    rw [(send_keeps σ x y s).1] at HTM
                    have HC6 := Lib.hid hc6
                    have HPK6 : Hid (PkAt w6 u (x, y, s)) := Lib.hid (row_put ho6 HPK5.out HC5.out.m2)
                    have HFT6 : Hid (FtAt w6 (t + 1) σ.fate) := Lib.hid (row_put ho6 HFT5.out HC5.out.m2)
                    rw [hw5]
                    clear hw5 hbv hc6 ho6
                    simp only [List.take_succ_cons, List.take_zero, List.drop_succ_cons, List.drop_zero]
                    repeat (first | still_step | still_call HTM.out)
                    refine wpStill_nil ?_
                    go_wp2_with fail
                    clear hrun p0 p1 p2 g2
                    go_upto_region 22 with fail
                    refine wp_region_still_tail 9 (by kernel_rfl) (by kernel_rfl) ?_
                    change wpStill _ _ w6.drew (fun a' => wpList _ _ _ _ a' w6.drew) _ _
                    obtain ⟨v5, hv5⟩ : ∃ V, w6.drew = V := ⟨_, rfl⟩
                    have hbv : Below w6.heap.size w6 v5 := by rw [← hv5]; exact below_drewN (Below.refl _ _) 1
                    have HCV := Lib.hid (HC6.out.below hbv)
                    obtain ⟨p0, p1, p2⟩ := (HPK6.out.below hbv).get
                    obtain ⟨_, g1, _⟩ := (HFT6.out.below hbv).get
                    have hlk2 := HCV.out.m1.look (x, y, s) HFI.out
                    obtain ⟨v6, hrun, hc6, ho6⟩ := HCV.out.put1 (x, y, s) HFI.out ((W (x, y, s)).getD 0 + σ.fate.2.1 + 1) HWB.out (by have := HX.out.1; have := HLT.out; omega)
                    simp only [pkV] at hlk2 hrun
                    have HQ : Hid (Scr w v6 p b1 (b1 + 1) (j + 1) fs) := Lib.hid (scr_send HX.out HT.out hz hfd hc6 (by omega) ⟨_, by simp [upd], Int.le_refl _⟩ (upd_low hlow) (upd_bnd HT.out.early (by have := HAW.out; omega)))
                    rw [hv5]
                    clear hv5 hbv hc6 ho6
                    have hwr1 := HWR.out.1
                    have hwr2 := HWR.out.2
                    simp only [List.take_succ_cons, List.take_zero, List.drop_succ_cons, List.drop_zero]
                    repeat still_step
                    refine wpStill_nil ?_
                    go_wp2_with fail
                    go_meet
                    exact HQ
                  · have hdc : decide ((σ.now : Int) + (σ.fate.2.2 : Int) < e0) = false := decide_eq_false hlt0
                    go_upto_region 20 with fail
                    have q0 := bof_cell p0
                    have q1 := bof_cell p1
                    have q2 := bof_cell p2
                    have q3 := bof_cell g2
                    have q4 : ∀ r : BOf w3, (Instr.lookup 40 (.map (some (b1 + 1))) (.agg #[.int .i64 x, .int .i64 y, .string s]) false).run Try.prog r.W = .ok (.int .i64 e0) r.W := fun r => by
                      have h := (HC3.out.below r.h).m2.look (x, y, s) HFI.out
                      simp only [pkV, hE, Option.getD_some] at h
                      exact h
                    have HT4 : Hid (∀ r : BOf w3, Calls Try.prog 11 #[.pointer (some ⟨p, 0, none⟩)] r.W fun e w' => e = .returned (.int .i64 σ.now) ∧ ∃ z : BOf w3, w' = z.W) := Lib.hid (fun r => bof_call ((come_time (HC3.out.below r.h)).mono fun _ _ ⟨he, hw⟩ => ⟨by rw [he, (send_keeps σ x y s).1], by rw [← hw]; exact Below.refl _ _⟩))
                    clear p0 p1 p2 g2
                    refine wp_region_bof (by kernel_rfl) (by kernel_rfl) ?_
                    repeat (go_big_quiet_step (first | (go_at_call 11; exact HT4.out _)))
                    refine wpQuiet_nil ?_
                    intro w4 hw4
                    have hb4 := bof_below hw4
                    have HC4 := Lib.hid (HC3.out.below hb4)
                    have HPK4 := Lib.hid (HPK3.out.below hb4)
                    have HFT4 := Lib.hid (HFT3.out.below hb4)
                    clear hw4 hb4 q0 q1 q2 q3 q4 g0 hlk
                    go_upto_region 22 with fail
                    refine wp_region_still_tail 9 (by kernel_rfl) (by kernel_rfl) ?_
                    change wpStill _ _ w4.drew (fun a' => wpList _ _ _ _ a' w4.drew) _ _
                    obtain ⟨v5, hv5⟩ : ∃ V, w4.drew = V := ⟨_, rfl⟩
                    have hbv : Below w4.heap.size w4 v5 := by rw [← hv5]; exact below_drewN (Below.refl _ _) 1
                    have HCV := Lib.hid (HC4.out.below hbv)
                    obtain ⟨p0, p1, p2⟩ := (HPK4.out.below hbv).get
                    obtain ⟨_, g1, _⟩ := (HFT4.out.below hbv).get
                    have hlk2 := HCV.out.m1.look (x, y, s) HFI.out
                    obtain ⟨v6, hrun, hc6, ho6⟩ := HCV.out.put1 (x, y, s) HFI.out ((W (x, y, s)).getD 0 + σ.fate.2.1 + 1) HWB.out (by have := HX.out.1; have := HLT.out; omega)
                    simp only [pkV] at hlk2 hrun
                    have HQ : Hid (Scr w v6 p b1 (b1 + 1) (j + 1) fs) := Lib.hid (scr_send HX.out HT.out hz hfd hc6 (by omega) ⟨e0, hE, by omega⟩ (fun q e h => ⟨e, h, Int.le_refl _⟩) HT.out.early)
                    rw [hv5]
                    clear hv5 hbv hc6 ho6
                    have hwr1 := HWR.out.1
                    have hwr2 := HWR.out.2
                    simp only [List.take_succ_cons, List.take_zero, List.drop_succ_cons, List.drop_zero]
                    repeat still_step
                    refine wpStill_nil ?_
                    go_wp2_with fail
                    go_meet
                    exact HQ
            · have HQ : Hid (Scr w w3 p b1 (b1 + 1) (j + 1) fs) := Lib.hid (scr_not HX.out HT.out hz hc3)
              clear hc3 hk3 HSD s0 s1 s2 s3
              go_wp2_with fail
              go_meet
              exact HQ
      case rest =>
        have hlt := HLT.out
        go_wp2_with fail
        go_roundw
        case rel => exact ⟨j + 1, by go_num, by omega, hcut⟩
        case measure => simp [intOf]; omega
    · obtain rfl : j = len2 := by omega
      clear hlt hj
      obtain ⟨σ, W, E, n, hC, hT, hn, hnow, hsent, hends, hfat⟩ := HSC.out
      have h120 := HN.out.1
      obtain ⟨T0, hT0⟩ : ∃ T, σ.now = T := ⟨_, rfl⟩
      have HT0 : Hid (T0 ≤ 120) := Lib.hid (by omega)
      have HOUT : Hid (Out w wr p b1 (b1 + 1) E T0 0) := Lib.hid ⟨σ, W, n, hC, hT, by have := hC.mine.2.1.len; omega, hT0, (fun z hz => by have := hC.mine.2.1.soon z hz; omega), fun h => by omega⟩
      clear hC hT hn hnow hsent hends hfat hT0 HSC h120
      go_wp2_with fail
      go_loopw [15, 16, 17, 18, 19] (fun i _ _ _ _ wx => ∃ k : Nat, i = .int .i64 k ∧ k ≤ 105 ∧ Hid (Out w wx p b1 (b1 + 1) E T0 k)) (fun i _ _ _ _ _ => 105 - (intOf i).toNat)
      case atStart => exact ⟨0, rfl, by omega, HOUT⟩
      case round =>
        obtain ⟨k, rfl, hk, HO⟩ := hrel
        clear HOUT
        by_cases hlt : k < 105
        · have hkn : decide ((k : Int) ≤ 104) = true := decide_eq_true (by omega)
          go_wp2_with fail
          go_loopw [16, 17, 18, 19] (fun _ _ _ _ wx => Hid (Inn w wx p b1 (b1 + 1) E T0 k)) (fun _ _ _ _ wx => wayN (wx.cell? ⟨p, 4, none⟩))
          case atStart => exact Lib.hid HO.out.inn
          case round =>
            obtain ⟨σ, W, n, hC, hT, hn, hnow, hsoon⟩ := hrel.out
            have hnx := come_next hC
            have hlen := way_len hC.mine
            have HLEN := Lib.hid hlen
            have HX : Hid (n + σ.way.length ≤ 5000 ∧ σ.now = T0 + k ∧ (∀ x ∈ σ.way, x.1 ≤ T0 + 103) ∧ k < 105 ∧ NetOK σ) := Lib.hid ⟨hn, hnow, hsoon, hlt, hC.mine.2.1⟩
            have HT := Lib.hid hT
            obtain ⟨⟨q0, q1, q2⟩, hnv, hq⟩ := agg_next σ.next.1
            rw [hnv] at hnx
            have HO1 := Lib.hid HO.out
            clear hC hT hn hnow hsoon hlen hrel hnv HO
            cases hns : σ.next.1 with
            | none =>
              rw [hns] at hnx
              simp only [Option.isSome_none] at hnx
              have HNX := Lib.hid hnx
              have HNS := Lib.hid hns
              clear hnx hq hns
              go_wp2_with fail
              refine HNX.out.mono ?_; rintro e w2 ⟨rfl, hc2, _⟩
              rw [next_none_same HNS.out] at hc2
              have HC2 := Lib.hid (hc2.below ((Below.refl _ _).alloc (Nat.le_refl _) (.cells #[.int .i64 q0, .int .i64 q1, .string q2] 33)))
              clear hc2 HNX
              go_wp2_with fail
              refine (come_tick (by have := HX.out.2.1; have := HT0.out; omega) HC2.out).mono ?_; rintro e w3 ⟨rfl, hc3, _⟩
              have HQ : Hid (Out w w3 p b1 (b1 + 1) E T0 (k + 1)) := Lib.hid (by
                obtain ⟨z1, z2, z3, _, z5⟩ := HX.out
                refine ⟨σ.tick, W, n, hc3, HT.out.same rfl, z1, (by show σ.now + 1 = _; omega), z3, fun _ z hz => ?_⟩
                have := next_none z5 HNS.out z hz
                omega)
              clear hc3
              go_wp2_with fail
              go_roundw
              case rel => exact ⟨k + 1, by go_num, by have := HX.out.2.2.2.1; omega, HQ⟩
              case measure => have := HX.out.2.2.2.1; simp [intOf]; omega
            | some q =>
              have hqq := hq q hns
              rw [hns] at hnx
              simp only [Option.isSome_some] at hnx
              obtain ⟨f1, f2, f3, ⟨e0, f4, f5⟩, f6, f7, f8⟩ := HT.out.next hns
              rw [← hqq] at f1 f2 f3 f4 f6
              obtain ⟨c, hc⟩ : ∃ c, (W (q0, q1, q2)).getD 0 = c := ⟨_, rfl⟩
              rw [hc] at f2 f3 f6
              have hcb : c ≤ 4096 := by have := HX.out.2.2.2.2.len; omega
              have HNX := Lib.hid hnx
              have HFI := Lib.hid f1
              have HE := Lib.hid f4
              have HT6 := Lib.hid f6
              have H7 := Lib.hid f7
              have H8 := Lib.hid f8
              have HCC := Lib.hid hc
              clear hnx hq hns hqq hc f1 f4 f6 f7 f8
              have hw1 : IntKind.i64.wrap (c - 1) = c - 1 := by rw [IntKind.wrap_i64]; omega
              go_wp2_with fail
              refine HNX.out.mono ?_; rintro e w2 ⟨rfl, hc2, _⟩
              obtain ⟨u, hu⟩ : ∃ u, w2.heap.size = u := ⟨_, rfl⟩
              have hbu : Below w2.heap.size w2 (w2.alloc (.cells #[.int .i64 q0, .int .i64 q1, .string q2] 33)) := (Below.refl _ _).alloc (Nat.le_refl _) _
              have hpk : PkAt (w2.alloc (.cells #[.int .i64 q0, .int .i64 q1, .string q2] 33)) u (q0, q1, q2) := by rw [← hu]; exact heap_alloc_new _ _
              have HC3 := Lib.hid (hc2.below hbu)
              have HPK := Lib.hid hpk
              clear hc2 hbu hpk HNX
              go_upto_region 28 with fail
              try simp only [hu]
              obtain ⟨W3, hW3⟩ : ∃ V, w2.alloc (.cells #[.int .i64 q0, .int .i64 q1, .string q2] 33) = V := ⟨_, rfl⟩
              rw [hW3] at HC3 HPK
              try simp only [hW3]
              clear hW3 hu
              refine wp_region_still_tail 6 (by kernel_rfl) (by kernel_rfl) ?_
              change wpStill _ _ W3.drew (fun a' => wpList _ _ _ _ a' W3.drew) _ _
              obtain ⟨v5, hv5⟩ : ∃ V, W3.drew = V := ⟨_, rfl⟩
              have hbv : Below W3.heap.size W3 v5 := by rw [← hv5]; exact below_drewN (Below.refl _ _) 1
              have HCV := Lib.hid (HC3.out.below hbv)
              have HPV := Lib.hid (HPK.out.below hbv)
              obtain ⟨p0, p1, p2⟩ := HPV.out.get
              have hlk2 := HCV.out.m1.look (q0, q1, q2) HFI.out
              rw [HCC.out] at hlk2
              obtain ⟨v6, hrun, hc6, ho6⟩ := HCV.out.put1 (q0, q1, q2) HFI.out (c - 1) (by omega) (by have := HX.out.1; omega)
              have hlk3 := hc6.m2.look_ok (q0, q1, q2) HFI.out
              have hlk4 := hc6.m1.look (q0, q1, q2) HFI.out
              rw [HE.out] at hlk3
              simp only [pkV, upd, if_true, Option.getD_some, Option.isSome_some] at hlk2 hlk3 hlk4 hrun
              have HPK6 : Hid (PkAt v6 u (q0, q1, q2)) := Lib.hid (row_put ho6 HPV.out HCV.out.m1)
              have HC6 := Lib.hid hc6
              have HTM := Lib.hid (come_time hc6)
              rw [hv5]
              clear hv5 hbv hc6 ho6
              simp only [List.take_succ_cons, List.take_zero, List.drop_succ_cons, List.drop_zero]
              repeat still_step
              refine wpStill_nil ?_
              obtain ⟨r0, r1, r2⟩ := HPK6.out.get
              have hd1 : decide (c - 1 < 0) = false := decide_eq_false (by omega)
              have hd2 : decide ((σ.now : Int) < e0) = false := decide_eq_false (by omega)
              rw [(next_keeps σ).1] at HTM
              go_wp2_with fail
              refine HTM.out.mono ?_; rintro e w' ⟨rfl, rfl⟩
              have HQ : Hid (Inn w v6 p b1 (b1 + 1) E T0 k) := Lib.hid (by
                obtain ⟨z1, z2, z3, _, _⟩ := HX.out
                have h7 := H7.out
                exact ⟨_, _, _, HC6.out, HT6.out, by omega, by rw [(next_keeps σ).1]; exact z2, fun z hz => z3 z (H8.out z hz)⟩)
              go_wp2_with fail
              go_roundw
              case rel => exact HQ
              case measure => rw [HLEN.out, way_len HC6.out.mine]; exact H7.out
        · have HK : Hid (k = 105) := Lib.hid (by omega)
          have hkn : decide ((k : Int) ≤ 104) = false := decide_eq_false (by omega)
          clear hk hlt
          have hfin : ∃ σ W n, Comes w wr p b1 (b1 + 1) n σ W E ∧ Tally σ W E ∧ σ.way = [] := by
            obtain ⟨σ, W, n, hC, hT, _, _, h5, h6⟩ := HO.out
            refine ⟨σ, W, n, hC, hT, List.eq_nil_iff_forall_not_mem.2 (fun z hz => ?_)⟩
            have := h5 z hz
            have h7 := HK.out
            have := h6 (by omega) z hz
            omega
          clear HO
          obtain ⟨σ, W, n, hC, hT, hway⟩ := hfin
          obtain ⟨D, hown, hD, hall⟩ := hC.m1
          have HD := Lib.hid hD
          have HALL := Lib.hid hall
          have HT := Lib.hid hT
          have HWAY := Lib.hid hway
          have HM := Lib.hid hC.mine
          clear hC hT hway hD hall
          go_wp2_with (first | (at_range; refine wpList_range_own _ rfl _ 40 rfl 33 3 packet_keyed Try.underlying40 _ b1 n D rfl hown ?_; intro w0 hrg0 hg0 hs0) | go_in)
          go_frame
          have HB0 : Hid (Below wr.heap.size wr w0) := Lib.hid ((Only.of_grown (S := fun _ => False) hg0 (fun _ h => by cases h)).below (Nat.le_refl _) (fun _ h => h.elim))
          have HRG0 := Lib.hid hrg0
          have HWB := Lib.hid HM.out.1
          clear hg0 hs0 hown hrg0
          obtain ⟨r, hr⟩ : ∃ r, wr.heap.size = r := ⟨_, rfl⟩
          obtain ⟨V, hV⟩ : ∃ V, wr = V := ⟨_, rfl⟩
          have HR : Hid (V.heap.size = r) := Lib.hid (by rw [← hV]; exact hr)
          rw [hr] at HRG0
          rw [hV] at HB0
          rw [hV] at HM
          try simp only [hr]
          clear hr hV HWB
          go_loopw [21] (fun _ wx => ∃ left cnt, Hid (wx.ranges Try.prog 33 (plainElem Try.prog 3) b1 r n D left cnt) ∧ Hid (Below V.heap.size V wx)) (fun _ wx => wx.rangeLeft b1 r)
          case atStart => exact ⟨_, _, HRG0, HB0⟩
          case round =>
            obtain ⟨left, cnt, HRG, HBX⟩ := hrel
            clear HRG0 HB0
            go_wp2_with (first | (at_next; refine wpList_next_ranges _ rfl _ rfl 33 packet_keyed (plainElem Try.prog 3) (fun v : Value => v) (Value.int .i64) (fun key kl _ => ⟨key, rfl⟩) (fun v y hv => by obtain ⟨c, rfl, _⟩ := plainElem_int_inv Try.underlying3 hv; exact ⟨c, rfl⟩) b1 r n D left cnt rfl HRG.out ?_ ?_) | go_in)
            · intro _ _
              have hfl := mine_fly (HM.out.below HBX.out)
              rw [show σ.way.length = 0 by rw [HWAY.out]; rfl] at hfl
              have HFL := Lib.hid hfl
              clear hfl
              go_wp2_with fail
              refine HFL.out.mono ?_; rintro e w9 ⟨a9, c9, rfl, hm9, _⟩
              have HM9 := Lib.hid hm9
              clear hm9 HFL
              go_wp2_with fail
              refine (HLV.out _).mono ?_; rintro e w8 ⟨rfl, hb8⟩
              have HB8 := Lib.hid (HM9.out.1.trans (hb8.mono HM9.out.1.size))
              clear hb8
              go_wp2_with fail
              go_ret
              exact ⟨rfl, HB8.out⟩
            · intro x c kl y pl w' cnt' hkx hlk hy hat hrg2 hlt2 hgr hsz hen
              obtain rfl : c = 0 := want_zero HD.out HALL.out HT.out HWAY.out hy hat
              have HRG2 := Lib.hid hrg2
              have HLT2 := Lib.hid hlt2
              have HB2 : Hid (Below V.heap.size V w') := Lib.hid (HBX.out.trans ((Only.of_grown (S := fun z => z = r) hgr (fun z hz => by injection hz with hz; exact hz.symm)).below HBX.out.size (fun z hz => by rw [hz, HR.out]; exact Nat.le_refl _)))
              clear hkx hlk hy hat hrg2 hlt2 hgr hsz
              go_wp2_with fail
              go_roundw
              case rel => first | exact ⟨_, _, HRG2, HB2⟩ | ((repeat apply Exists.intro); exact ⟨⟨_, _, HRG2, HB2⟩, rfl⟩)  | (trace_state; sorry)
              case measure => rw [HRG2.out.left_eq, HRG.out.left_eq]; exact HLT2.out
end Go.Proofs.Ytbmlgnmilolamaa
