/-
  The document's New. No statement is proved here.
-/
import Derived.Test.YtbmlgnmilolamaaDoorRefE
namespace Go.Proofs.YtbmlgnmilolamaaDoor
open Go.RowKit
def RNewIs (k : Int) (fs : List FaI) (w : World) (e : Ending) (w' : World) : Prop :=
  Below w.heap.size w w' ∧
    ((newBad k fs = none ∧ ∃ p fv, e = .returned (.tuple #[.pointer (some ⟨p, 0, none⟩), .int .i64 0, .int .i64 (-1)]) ∧ w.heap.size ≤ p ∧ RefAt w' p fv (.slice none 0 0) ⟨k.toNat, 0, 0, fs.map faN, []⟩ ∧ (∀ g, fv.ownBlock = some g → w.heap.size ≤ g)) ∨
     (∃ at_, newBad k fs = some at_ ∧ e = .returned (.tuple #[.pointer none, .int .i64 2, .int .i64 at_])))
set_option maxRecDepth 100000 in
theorem run_clone (w : World) (a : Option Addr) (len cap : Nat) (fs : List FaI) (h : FaRow w a len fs) (hl : len ≤ 1000) :
    ∃ v' w', (Builtin.append_ #[38, 38] 38 #[.slice none 0 0, .slice a len cap]).run Tryd.prog w = .ok v' w' ∧ w'.ownsRow 0 44 3 v' fs.length (rowC faIC fs) ∧ Below w.heap.size w w' ∧ (∀ g, v'.ownBlock = some g → w.heap.size ≤ g) ∧ ∃ a' c', v' = .slice a' len c' := by
  obtain ⟨i0, hi, hz0, hz1, hz2⟩ := info_parts info_fate
  cases a with
  | none =>
    have h0 : len = 0 := by
      rcases Nat.eq_zero_or_pos len with h0 | h0
      · exact h0
      · obtain ⟨_, _, e, _⟩ := h.2 h0
        cases e
    subst h0
    have hfs : fs = [] := List.eq_nil_of_length_eq_zero h.1
    subst hfs
    refine ⟨.slice none 0 0, w, ?_, World.ownsRow_nil _ _ _ _, Below.refl _ _, (fun g hg => by cases hg), none, 0, rfl⟩
    simp [Builtin.append_, run_underlying Tryd.underlying38, sizeOf, typeInfo, hi, Builtin.lenOf, Builtin.firstCells]
  | some ad =>
    have hnews : ∀ j u, (rowC faIC fs)[j]? = some u → w.cell? (ad.add j) = some u := by
      intro j u hu
      have h0 : 0 < len := by
        rcases Nat.eq_zero_or_pos len with h0 | h0
        · have hfs : fs = [] := List.eq_nil_of_length_eq_zero (by rw [h.1, h0])
          subst hfs
          simp [rowC] at hu
        · exact h0
      obtain ⟨b, off, e, _⟩ := h.2 h0
      injection e with e
      subst e
      exact h.news j u hu
    obtain ⟨v', w', hrun, h2, h3, h4⟩ := append_row (P := Tryd.prog) w 38 38 44 i0 _ 3 24 Tryd.underlying38 hi hz0 hz1 hz2 rfl (by decide) _ 0 [] (World.ownsRow_nil _ _ _ _) ad len cap (rowC faIC fs) (by rw [rowC_length faIC 3 faIC_len, h.1]) hnews (faIC_one fs) (by unfold maxLen; omega) (by omega)
    rw [Nat.zero_add, List.nil_append] at h2
    refine ⟨v', w', hrun, by rw [h.1]; exact h2, (Below.refl _ _).grown h3 (Nat.le_refl _) (fun k hk => by cases hk), (fun g hg => ?_), ?_⟩
    · rcases h4 with h4 | h4
      · rw [hg] at h4
        cases h4
      · exact h4 g hg
    rcases h2.2 with ⟨rfl, h0⟩ | ⟨g, c, _, rfl, _⟩
    · exact ⟨none, 0, by rw [h0]⟩
    · exact ⟨_, _, rfl⟩
set_option maxHeartbeats 4000000 in
set_option maxRecDepth 100000 in
theorem rNew_at (k : Int) (a : Option Addr) (len cap : Nat) (fs : List FaI) (w : World) (h : FaRow w a len fs) (hl : len ≤ 1000) :
    Calls Tryd.prog 13 #[.int .i64 k, .slice a len cap] w (RNewIs k fs w) := by
  have HR := Lib.hid h
  clear h
  by_cases h1 : k < 1
  · have hb : newBad k fs = some (-1) := by rw [newBad, if_pos (.inl h1)]
    have HB := Lib.hid hb
    clear hb
    go_enter Tryd.func13, Tryd.ntmps13
    go_wp2_with fail
    go_ret3
    exact ⟨Below.refl _ _, .inr ⟨-1, HB.out, rfl⟩⟩
  · by_cases h2 : 64 < k
    · have hb : newBad k fs = some (-1) := by rw [newBad, if_pos (.inr h2)]
      have HB := Lib.hid hb
      clear hb
      go_enter Tryd.func13, Tryd.ntmps13
      go_wp2_with fail
      go_ret3
      exact ⟨Below.refl _ _, .inr ⟨-1, HB.out, rfl⟩⟩
    · have HB : Hid (newBad k fs = Option.map (fun i : Nat => (i : Int)) (fs.findIdx? (fun f => !decide (faOk f)))) := Lib.hid (by rw [newBad, if_neg (fun h => by rcases h with h | h <;> omega)])
      go_enter Tryd.func13, Tryd.ntmps13
      go_wp2_with fail
      go_loopw [7] (fun i wr => ∃ j : Nat, j ≤ len ∧ i = .int .i64 j ∧ Hid (∀ f ∈ fs.take j, faOk f) ∧ Hid (Below w.heap.size w wr)) (fun i _ => len - (intOf i).toNat)
      case atStart => exact ⟨0, Nat.zero_le _, rfl, Lib.hid (by simp), Lib.hid (Below.refl _ _)⟩
      case round =>
        obtain ⟨j, hj, rfl, HP, HBr⟩ := hrel
        by_cases hlt : j < len
        · obtain ⟨b, off, rfl, hc⟩ := (HR.out.below HBr.out).2 (by omega)
          obtain ⟨f, hf⟩ : ∃ f, fs[j]? = some f := ⟨_, List.getElem?_eq_getElem (by have := HR.out.1; omega)⟩
          obtain ⟨c0, c1, c2⟩ := hc j f hf
          have HF := Lib.hid hf
          obtain ⟨f0, f1, f2⟩ := f
          simp only at c0 c1 c2
          have HB2 : Hid (Below w.heap.size w (wr.alloc (.cells #[.bool f0, .int .i64 f1, .int .i64 f2] 44))) := Lib.hid (HBr.out.alloc HBr.out.size _)
          clear hc hf
          by_cases hok : faOk (f0, f1, f2)
          · have HOK := Lib.hid hok
            have d1 : decide (f1 < 0) = false := decide_eq_false (by have := hok.1.1; simp only at this; omega)
            have d2 : decide (3 < f1) = false := decide_eq_false (by have := hok.1.2; simp only at this; omega)
            have d3 : decide (f2 < 0) = false := decide_eq_false (by have := hok.2.1; simp only at this; omega)
            have d4 : decide (100 < f2) = false := decide_eq_false (by have := hok.2.2; simp only at this; omega)
            clear hok
            go_wp2_with fail
            go_roundw
            case rel =>
              refine ⟨j + 1, by omega, by go_num, Lib.hid (fun g hg => ?_), HB2⟩
              rw [List.take_add_one, HF.out, Option.toList_some] at hg
              rcases List.mem_append.1 hg with hg | hg
              · exact HP.out g hg
              · rw [List.mem_singleton.1 hg]; exact HOK.out
            case measure => simp [intOf]; omega
          · have HNB : Hid (newBad k fs = some (j : Int)) := Lib.hid (by rw [HB.out, findIdx_some HF.out hok HP.out]; rfl)
            have hcase : f1 < 0 ∨ (¬ f1 < 0 ∧ 3 < f1) ∨ (¬ f1 < 0 ∧ ¬ 3 < f1 ∧ f2 < 0) ∨ (¬ f1 < 0 ∧ ¬ 3 < f1 ∧ ¬ f2 < 0 ∧ 100 < f2) := by
              unfold faOk at hok
              simp only at hok
              omega
            clear hok
            rcases hcase with d1 | ⟨d1, d2⟩ | ⟨d1, d2, d3⟩ | ⟨d1, d2, d3, d4⟩
            all_goals (go_wp2_with fail)
            all_goals go_ret3
            all_goals exact ⟨HB2.out, .inr ⟨(j : Int), HNB.out, rfl⟩⟩
        · obtain rfl : j = len := by omega
          have HALL : Hid (∀ f ∈ fs, faOk f) := Lib.hid (fun f hf => HP.out f (by rw [List.take_of_length_le (by have := HR.out.1; omega)]; exact hf))
          have HNB : Hid (newBad k fs = none) := Lib.hid (by rw [HB.out, findIdx_none HALL.out]; rfl)
          obtain ⟨v', w', hrun, hown, hb, hge, a', c', rfl⟩ := run_clone wr a j cap fs (HR.out.below HBr.out) hl
          have HRUN := Lib.hid hrun
          have HOWN := Lib.hid hown
          have HB2 := Lib.hid (HBr.out.trans (hb.mono HBr.out.size))
          have HGE : Hid (∀ g, (Value.slice a' j c').ownBlock = some g → w.heap.size ≤ g) := Lib.hid (fun g hg => Nat.le_trans HBr.out.size (hge g hg))
          clear hrun hown hb hge
          go_wp2_with (at_builtin; refine wpList_append_run rfl _ _ 38 38 rfl _ _ rfl rfl HRUN.out ?_)
          go_ret3
          refine ⟨HB2.out.alloc HB2.out.size _, .inl ⟨HNB.out, w'.heap.size, .slice a' j c', rfl, HB2.out.size, ⟨by show 0 < k.toNat; omega, ?_, ?_, World.ownsRow_nil _ _ _ _⟩, HGE.out⟩⟩
          · rw [heap_alloc_new w']
            show some _ = some _
            rw [Int.toNat_of_nonneg (by omega)]
            rfl
          · show World.ownsRow _ 0 _ 3 _ (fs.map faN).length (rowC faC (fs.map faN))
            rw [List.length_map, rowC_of HALL.out]
            exact HOWN.out.alloc _
end Go.Proofs.YtbmlgnmilolamaaDoor
