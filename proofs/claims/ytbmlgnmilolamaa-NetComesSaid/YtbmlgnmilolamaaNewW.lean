/-
  slices.Clone of fates; New. No statement is proved here.
-/
import Derived.Test.YtbmlgnmilolamaaInsertW
import Derived.Test.YtbmlgnmilolamaaSendW
namespace Go.Proofs.Ytbmlgnmilolamaa
open Go.RowKit
/-- A fate of whatever numbers. -/
abbrev FaI := Bool × Int × Int
/-- A slice of fates that is read. -/
def FaRow (w : World) (a : Option Addr) (len : Nat) (fs : List FaI) : Prop :=
  fs.length = len ∧ (0 < len → ∃ b off, a = some ⟨b, off, none⟩ ∧ ∀ i f, fs[i]? = some f → w.cell? ⟨b, off + i * 3, none⟩ = some (.bool f.1) ∧ w.cell? ⟨b, off + i * 3 + 1, none⟩ = some (.int .i64 f.2.1) ∧ w.cell? ⟨b, off + i * 3 + 2, none⟩ = some (.int .i64 f.2.2))
theorem FaRow.below {w w' : World} {a : Option Addr} {len : Nat} {fs : List FaI} (h : FaRow w a len fs) (hb : Below w.heap.size w w') : FaRow w' a len fs := by
  obtain ⟨h1, h2⟩ := h
  refine ⟨h1, fun hl => ?_⟩
  obtain ⟨b, off, e, hc⟩ := h2 hl
  refine ⟨b, off, e, fun i f hf => ?_⟩
  obtain ⟨c0, c1, c2⟩ := hc i f hf
  have hlt := World.block_lt_of_cell? w _ c0
  exact ⟨(hb.cell (p := ⟨b, off + i * 3, none⟩) hlt).trans c0, (hb.cell (p := ⟨b, off + i * 3 + 1, none⟩) hlt).trans c1, (hb.cell (p := ⟨b, off + i * 3 + 2, none⟩) hlt).trans c2⟩
def faIC (f : FaI) : List Value := [.bool f.1, .int .i64 f.2.1, .int .i64 f.2.2]
theorem faIC_len (f : FaI) : (faIC f).length = 3 := rfl
theorem faIC_one (l : List FaI) : ∀ v ∈ rowC faIC l, v.oneCell' = true := by
  intro v hv
  obtain ⟨x, _, h⟩ := List.mem_flatMap.1 hv
  revert h
  simp only [faIC, List.mem_cons, List.not_mem_nil, or_false]
  rintro (rfl | rfl | rfl) <;> rfl
theorem rowC_split {α : Type} (f : α → List Value) (k : Nat) (hk0 : 0 < k) (hk : ∀ x, (f x).length = k) : ∀ (l : List α) (j : Nat) (v : Value), (rowC f l)[j]? = some v → ∃ x, l[j / k]? = some x ∧ (f x)[j % k]? = some v
  | [], j, v, h => by simp [rowC] at h
  | x :: l, j, v, h => by
    rw [rowC_cons] at h
    by_cases hj : j < k
    · rw [List.getElem?_append_left (by rw [hk]; exact hj)] at h
      exact ⟨x, by rw [Nat.div_eq_of_lt hj]; rfl, by rw [Nat.mod_eq_of_lt hj]; exact h⟩
    · rw [List.getElem?_append_right (by rw [hk]; omega), hk] at h
      obtain ⟨y, h1, h2⟩ := rowC_split f k hk0 hk l (j - k) v h
      obtain ⟨i, rfl⟩ : ∃ i, j = i + k := ⟨j - k, by omega⟩
      rw [Nat.add_sub_cancel] at h1 h2
      exact ⟨y, by rw [Nat.add_div_right _ hk0, List.getElem?_cons_succ]; exact h1, by rw [Nat.add_mod_right]; exact h2⟩
theorem FaRow.news {w : World} {b off len : Nat} {fs : List FaI} (h : FaRow w (some ⟨b, off, none⟩) len fs) : ∀ j u, (rowC faIC fs)[j]? = some u → w.cell? ((⟨b, off, none⟩ : Addr).add j) = some u := by
  intro j u hu
  obtain ⟨x, h1, h2⟩ := rowC_split faIC 3 (by decide) faIC_len fs j u hu
  obtain ⟨b', off', e, hc⟩ := h.2 (by have := h.1; have := (List.getElem?_eq_some_iff.1 h1).1; omega)
  injection e with e
  injection e with e1 e2
  subst e1 e2
  obtain ⟨c0, c1, c2⟩ := hc _ _ h1
  rw [show (⟨b, off, none⟩ : Addr).add j = ⟨b, off + j, none⟩ by unfold Addr.add; split <;> simp_all]
  have hm : j % 3 < 3 := Nat.mod_lt _ (by decide)
  have hd : j = j / 3 * 3 + j % 3 := by omega
  rw [hd]
  match j % 3, hm, h2 with
  | 0, _, h2 => cases h2; rw [← Nat.add_assoc]; exact c0
  | 1, _, h2 => cases h2; rw [← Nat.add_assoc]; exact c1
  | 2, _, h2 => cases h2; rw [← Nat.add_assoc]; exact c2
theorem info_fate : (Try.prog.info? 24).map (fun i => (i.zero, i.size, i.bytes)) = some (some (.agg #[.bool false, .int .i64 0, .int .i64 0]), 3, 24) := by kernel_rfl
/-- A copy in memory of its own. -/
def CloneIs (fs : List FaI) (w : World) (e : Ending) (w' : World) : Prop :=
  ∃ a cap, e = .returned (.slice a fs.length cap) ∧ w'.ownsRow 0 24 3 (.slice a fs.length cap) fs.length (rowC faIC fs) ∧ Below w.heap.size w w' ∧ (∀ g, (Value.slice a fs.length cap).ownBlock = some g → w.heap.size ≤ g)
set_option maxHeartbeats 2000000 in
theorem CloneF_any (a : Option Addr) (len cap : Nat) (fs : List FaI) (w : World) (h : FaRow w a len fs) (hl : len ≤ 1000) :
    Calls Try.prog 15 #[.slice a len cap] w (CloneIs fs w) := by
  cases a with
  | none =>
    have h0 : len = 0 := by
      rcases Nat.eq_zero_or_pos len with h0 | h0
      · exact h0
      · obtain ⟨_, _, e, _⟩ := h.2 h0
        cases e
    subst h0
    have hfs : fs = [] := List.eq_nil_of_length_eq_zero h.1
    subst hfs
    have q := fun W => Lib.run_eql_slice_nil (P := Try.prog) W 22 _ none 0 cap 0 0 Try.underlying22
    clear h
    go_enter Try.func15, Try.ntmps15
    go_wp2_with fail
    go_ret
    exact ⟨none, 0, rfl, World.ownsRow_nil _ _ _ _, Below.refl _ _, fun g hg => by cases hg⟩
  | some ad =>
    have hnews : ∀ j u, (rowC faIC fs)[j]? = some u → w.cell? (ad.add j) = some u := by
      intro j u hu
      have h0 : 0 < len := by
        rcases Nat.eq_zero_or_pos len with h0 | h0
        · have hfs : fs = [] := List.eq_nil_of_length_eq_zero (by rw [h.1, h0])
          subst hfs
          simp [rowC] at hu
        · exact h0
      obtain ⟨b, off, e, _⟩ := h.2 h0
      injection e with e
      subst e
      exact h.news j u hu
    obtain ⟨i0, hi, hz0, hz1, hz2⟩ := info_parts info_fate
    obtain ⟨W1, hW1⟩ : ∃ W1, w.alloc (.cells #[] 24) = W1 := ⟨_, rfl⟩
    have hown : W1.ownsRow 0 24 3 (.slice (some ⟨w.heap.size, 0, none⟩) 0 0) 0 [] := by rw [← hW1]; exact World.ownsRow_made w #[] 0 (Nat.zero_le _) (Nat.zero_le _) rfl
    have hB : Below w.heap.size w W1 := by rw [← hW1]; exact (Below.refl _ _).alloc (Nat.le_refl _) _
    have hsz : W1.heap.size = w.heap.size + 1 := by rw [← hW1]; simp
    obtain ⟨v', w', hrun, h2, h3, h4⟩ := append_row (P := Try.prog) W1 22 22 24 i0 _ 3 24 Try.underlying22 hi hz0 hz1 hz2 rfl (by decide) _ 0 [] hown ad len cap (rowC faIC fs) (by rw [rowC_length faIC 3 faIC_len, h.1]) (fun j u hu => (hB.cell (World.block_lt_of_cell? w _ (hnews j u hu))).trans (hnews j u hu)) (faIC_one fs) (by unfold maxLen; omega) (by omega)
    have HRUN := Lib.hid hrun
    have HE : Hid (CloneIs fs w (.returned v') w') := Lib.hid (by
      have hb : Below w.heap.size w w' := hB.grown h3 (by omega) (fun k hk => by simp [Value.ownBlock] at hk; omega)
      rw [Nat.zero_add, List.nil_append] at h2
      have hn := h.1
      obtain ⟨a', c', rfl⟩ : ∃ a c, v' = .slice a len c := by
        rcases h2.2 with ⟨rfl, h0⟩ | ⟨g, c, _, rfl, _⟩
        · exact ⟨none, 0, by rw [h0]⟩
        · exact ⟨_, _, rfl⟩
      rw [← hn] at h2 h4 ⊢
      refine ⟨a', c', rfl, h2, hb, fun g hg => ?_⟩
      rcases h4 with h4 | h4
      · rw [hg] at h4
        injection h4 with h4
        exact Nat.le_of_eq h4.symm
      · have := h4 g hg
        omega)
    have q := fun W => Lib.run_eql_slice_nil (P := Try.prog) W 22 _ (some ad) len cap 0 0 Try.underlying22
    clear h hrun h2 h3 h4 hown hB hnews hi hz0 hz1 hz2 hsz
    subst hW1
    obtain ⟨ab, ao, asp⟩ := ad
    go_enter Try.func15, Try.ntmps15
    go_wp2_with (at_builtin; refine wpList_append_run rfl _ _ 22 22 rfl _ _ rfl rfl HRUN.out ?_)
    go_ret
    exact HE.out
/-- May a fate be? -/
def faOk (f : FaI) : Prop := (0 ≤ f.2.1 ∧ f.2.1 ≤ 3) ∧ 0 ≤ f.2.2 ∧ f.2.2 ≤ 100
instance (f : FaI) : Decidable (faOk f) := inferInstanceAs (Decidable (_ ∧ _))
def faN (f : FaI) : Fa := (f.1, f.2.1.toNat, f.2.2.toNat)
theorem faC_of {f : FaI} (h : faOk f) : faC (faN f) = faIC f := by
  obtain ⟨⟨h1, _⟩, h2, _⟩ := h
  simp only [faC, faN, faIC, Int.toNat_of_nonneg h1, Int.toNat_of_nonneg h2]
theorem rowC_of {fs : List FaI} (h : ∀ f ∈ fs, faOk f) : rowC faC (fs.map faN) = rowC faIC fs := by
  induction fs with
  | nil => rfl
  | cons f fs ih =>
    rw [List.map_cons, rowC_cons, rowC_cons, faC_of (h f (List.mem_cons_self ..)), ih (fun g hg => h g (List.mem_cons_of_mem _ hg))]
/-- Where New finds the first fault: -1: the number of ends; i: the fate i; none. -/
def newBad (k : Int) (fs : List FaI) : Option Int := if k < 1 ∨ 64 < k then some (-1) else Option.map (fun i : Nat => (i : Int)) (fs.findIdx? (fun f => !decide (faOk f)))
theorem findIdx_none {fs : List FaI} (h : ∀ f ∈ fs, faOk f) : fs.findIdx? (fun f => !decide (faOk f)) = none := by
  rw [List.findIdx?_eq_none_iff]
  intro f hf
  simpa using h f hf
theorem findIdx_some {fs : List FaI} {i : Nat} {f : FaI} (hf : fs[i]? = some f) (hb : ¬ faOk f) (hp : ∀ g ∈ fs.take i, faOk g) : fs.findIdx? (fun f => !decide (faOk f)) = some i := by
  have hi := (List.getElem?_eq_some_iff.1 hf).1
  have hv := (List.getElem?_eq_some_iff.1 hf).2
  rw [List.findIdx?_eq_some_iff_getElem]
  refine ⟨hi, by rw [hv]; simpa using hb, fun j hj => ?_⟩
  have : fs[j] ∈ fs.take i := List.mem_take_iff_getElem.2 ⟨j, by omega, rfl⟩
  simpa using hp _ this
def NewIs (k : Int) (fs : List FaI) (w : World) (e : Ending) (w' : World) : Prop :=
  Below w.heap.size w w' ∧
    ((newBad k fs = none ∧ (∀ f ∈ fs, faOk f) ∧ 1 ≤ k ∧ k ≤ 64 ∧ ∃ p fv, e = .returned (.tuple #[.pointer (some ⟨p, 0, none⟩), .nilIface]) ∧ w.heap.size ≤ p ∧ NetAt w' p fv (.slice none 0 0) ⟨k.toNat, 0, 0, fs.map faN, []⟩ ∧ (∀ g, fv.ownBlock = some g → w.heap.size ≤ g)) ∨
     (∃ at_ b, newBad k fs = some at_ ∧ e = .returned (.tuple #[.pointer none, .iface 58 (.pointer (some ⟨b, 0, none⟩))]) ∧ FltAt w' b 2 at_))
set_option maxHeartbeats 4000000 in
set_option maxRecDepth 100000 in
theorem New_at (k : Int) (a : Option Addr) (len cap : Nat) (fs : List FaI) (w : World) (h : FaRow w a len fs) (hl : len ≤ 1000) :
    Calls Try.prog 5 #[.int .i64 k, .slice a len cap] w (NewIs k fs w) := by
  have HR := Lib.hid h
  clear h
  by_cases h1 : k < 1
  · have hb : newBad k fs = some (-1) := by rw [newBad, if_pos (.inl h1)]
    have HB := Lib.hid hb
    clear hb
    go_enter Try.func5, Try.ntmps5
    go_wp2_with fail
    refine (nfault_any _ _ _).mono ?_; rintro e w1 ⟨b, rfl, hF, hb⟩
    have HF := Lib.hid hF
    clear hF
    go_wp2_with fail
    go_ret2
    exact ⟨hb, .inr ⟨-1, b, HB.out, rfl, HF.out⟩⟩
  · by_cases h2 : 64 < k
    · have hb : newBad k fs = some (-1) := by rw [newBad, if_pos (.inr h2)]
      have HB := Lib.hid hb
      clear hb
      go_enter Try.func5, Try.ntmps5
      go_wp2_with fail
      refine (nfault_any _ _ _).mono ?_; rintro e w1 ⟨b, rfl, hF, hb⟩
      have HF := Lib.hid hF
      clear hF
      go_wp2_with fail
      go_ret2
      exact ⟨hb, .inr ⟨-1, b, HB.out, rfl, HF.out⟩⟩
    · have HB : Hid (newBad k fs = Option.map (fun i : Nat => (i : Int)) (fs.findIdx? (fun f => !decide (faOk f)))) := Lib.hid (by rw [newBad, if_neg (fun h => by rcases h with h | h <;> omega)])
      go_enter Try.func5, Try.ntmps5
      go_wp2_with fail
      go_loopw [17] (fun i wr => ∃ j : Nat, j ≤ len ∧ i = .int .i64 j ∧ Hid (∀ f ∈ fs.take j, faOk f) ∧ Hid (Below w.heap.size w wr)) (fun i _ => len - (intOf i).toNat)
      case atStart => exact ⟨0, Nat.zero_le _, rfl, Lib.hid (by simp), Lib.hid (Below.refl _ _)⟩
      case round =>
        obtain ⟨j, hj, rfl, HP, HBr⟩ := hrel
        by_cases hlt : j < len
        · obtain ⟨b, off, rfl, hc⟩ := (HR.out.below HBr.out).2 (by omega)
          obtain ⟨f, hf⟩ : ∃ f, fs[j]? = some f := ⟨_, List.getElem?_eq_getElem (by have := HR.out.1; omega)⟩
          obtain ⟨c0, c1, c2⟩ := hc j f hf
          have HF := Lib.hid hf
          obtain ⟨f0, f1, f2⟩ := f
          simp only at c0 c1 c2
          clear hc hf
          go_wp2_with fail
          by_cases hok : faOk (f0, f1, f2)
          · have HOK := Lib.hid hok
            have hm := may_any f0 f1 f2
            rw [decide_eq_true (show (0 ≤ f1 ∧ f1 ≤ 3) ∧ 0 ≤ f2 ∧ f2 ≤ 100 from hok)] at hm
            refine (hm _).mono ?_; rintro e w1 ⟨rfl, hb⟩
            have HB2 : Hid (Below w.heap.size w w1) := Lib.hid (HBr.out.trans (((Below.refl _ _).alloc (Nat.le_refl _) _).trans (hb.mono (by simp)) |>.mono HBr.out.size))
            clear hb hm hok
            go_wp2_with fail
            go_roundw
            case rel =>
              refine ⟨j + 1, by omega, by go_num, Lib.hid (fun g hg => ?_), HB2⟩
              rw [List.take_add_one, HF.out, Option.toList_some] at hg
              rcases List.mem_append.1 hg with hg | hg
              · exact HP.out g hg
              · rw [List.mem_singleton.1 hg]; exact HOK.out
            case measure => simp [intOf]; omega
          · have HOK := Lib.hid hok
            have hm := may_any f0 f1 f2
            rw [decide_eq_false (show ¬ ((0 ≤ f1 ∧ f1 ≤ 3) ∧ 0 ≤ f2 ∧ f2 ≤ 100) from hok)] at hm
            refine (hm _).mono ?_; rintro e w1 ⟨rfl, hb⟩
            have HB2 : Hid (Below w.heap.size w w1) := Lib.hid (HBr.out.trans (((Below.refl _ _).alloc (Nat.le_refl _) _).trans (hb.mono (by simp)) |>.mono HBr.out.size))
            have HNB : Hid (newBad k fs = some (j : Int)) := Lib.hid (by rw [HB.out, findIdx_some HF.out HOK.out HP.out]; rfl)
            clear hb hm hok
            go_wp2_with fail
            refine (nfault_any _ _ _).mono ?_; rintro e w2 ⟨b2, rfl, hF, hb⟩
            have HF2 := Lib.hid hF
            have HB3 := Lib.hid (HB2.out.trans (hb.mono HB2.out.size))
            clear hF hb
            go_wp2_with fail
            go_ret2
            exact ⟨HB3.out, .inr ⟨(j : Int), b2, HNB.out, rfl, HF2.out⟩⟩
        · obtain rfl : j = len := by omega
          have HALL : Hid (∀ f ∈ fs, faOk f) := Lib.hid (fun f hf => HP.out f (by rw [List.take_of_length_le (by have := HR.out.1; omega)]; exact hf))
          have HNB : Hid (newBad k fs = none) := Lib.hid (by rw [HB.out, findIdx_none HALL.out]; rfl)
          have HC := Lib.hid (CloneF_any a j cap fs wr (HR.out.below HBr.out) hl)
          go_wp2_with fail
          refine HC.out.mono ?_; rintro e w1 ⟨a', cap', rfl, hown, hb, hge⟩
          have HOWN := Lib.hid hown
          have HB2 := Lib.hid (HBr.out.trans (hb.mono HBr.out.size))
          have HGE : Hid (∀ g, (Value.slice a' fs.length cap').ownBlock = some g → w.heap.size ≤ g) := Lib.hid (fun g hg => Nat.le_trans HBr.out.size (hge g hg))
          clear hown hb hge
          go_wp2_with fail
          go_ret2
          refine ⟨HB2.out.alloc HB2.out.size _, .inl ⟨HNB.out, HALL.out, by omega, by omega, w1.heap.size, _, rfl, HB2.out.size, ⟨by show 0 < k.toNat; omega, ?_, ?_, World.ownsRow_nil _ _ _ _⟩, HGE.out⟩⟩
          · rw [heap_alloc_new w1]
            show some _ = some _
            rw [Int.toNat_of_nonneg (by omega)]
            rfl
          · show World.ownsRow _ 0 _ 3 _ (fs.map faN).length (rowC faC (fs.map faN))
            rw [List.length_map, rowC_of HALL.out]
            exact HOWN.out.alloc _
end Go.Proofs.Ytbmlgnmilolamaa
