/-
  'lives': the chapter's first examples. No statement is proved here.
-/
import Derived.Test.YtbmlgnmilolamaaMineW
namespace Go.Proofs.Ytbmlgnmilolamaa
open Go.RowKit
def lf : List FaI := [(true, 0, 0), (false, 1, 0), (false, 0, 2)]
def l0 : NetS := ⟨2, 0, 0, lf.map faN, []⟩
def l1 : NetS := ⟨2, 0, 1, lf.map faN, []⟩
def l2 : NetS := ⟨2, 0, 2, lf.map faN, [(0, 1, 0, 1, ⟨#[98]⟩), (1, 1, 0, 1, ⟨#[98]⟩)]⟩
def l3 : NetS := ⟨2, 0, 3, lf.map faN, [(0, 1, 0, 1, ⟨#[98]⟩), (1, 1, 0, 1, ⟨#[98]⟩), (2, 2, 0, 1, ⟨#[99]⟩)]⟩
def l4 : NetS := ⟨2, 0, 4, lf.map faN, [(0, 3, 0, 1, ⟨#[100]⟩), (0, 1, 0, 1, ⟨#[98]⟩), (1, 1, 0, 1, ⟨#[98]⟩), (2, 2, 0, 1, ⟨#[99]⟩)]⟩
def l5 : NetS := ⟨2, 0, 4, lf.map faN, [(0, 1, 0, 1, ⟨#[98]⟩), (1, 1, 0, 1, ⟨#[98]⟩), (2, 2, 0, 1, ⟨#[99]⟩)]⟩
def l6 : NetS := ⟨2, 0, 4, lf.map faN, [(1, 1, 0, 1, ⟨#[98]⟩), (2, 2, 0, 1, ⟨#[99]⟩)]⟩
theorem ls1 : l0.send 0 1 ⟨#[97]⟩ = (0, l1) := rfl
theorem ln1 : l1.next = (none, l1) := rfl
theorem ls2 : l1.send 0 1 ⟨#[98]⟩ = (0, l2) := rfl
theorem ls3 : l2.send 0 1 ⟨#[99]⟩ = (0, l3) := rfl
theorem ls4 : l3.send 0 1 ⟨#[100]⟩ = (0, l4) := rfl
theorem ln2 : l4.next = (some (0, 1, ⟨#[100]⟩), l5) := rfl
theorem ln3 : l5.next = (some (0, 1, ⟨#[98]⟩), l6) := rfl
theorem ln4 : l6.next = (none, l6) := rfl
theorem lf_row (w : World) : FaRow (w.alloc (.cells #[.bool true, .int .i64 0, .int .i64 0, .bool false, .int .i64 1, .int .i64 0, .bool false, .int .i64 0, .int .i64 2] 24)) (some ⟨w.heap.size, 0, none⟩) 3 lf := by
  refine ⟨rfl, fun _ => ⟨_, _, rfl, fun i f hf => ?_⟩⟩
  match i, hf with
  | 0, hf => cases hf; refine ⟨?_, ?_, ?_⟩ <;> (rw [World.cell?_alloc_mark]; rfl)
  | 1, hf => cases hf; refine ⟨?_, ?_, ?_⟩ <;> (rw [World.cell?_alloc_mark]; rfl)
  | 2, hf => cases hf; refine ⟨?_, ?_, ?_⟩ <;> (rw [World.cell?_alloc_mark]; rfl)
  | n + 3, hf => simp [lf] at hf
theorem lf_ok : ∀ f ∈ lf, faOk f := by decide
theorem sml (k : NetS) (h1 : k.now = 0) (h2 : k.sent ≤ 4) : Small k := ⟨by omega, by omega⟩
/-- A packet's block. -/
def PkAt (w : World) (b : Nat) (q : Pk) : Prop := w.heap[b]? = some (.cells #[.int .i64 q.1, .int .i64 q.2.1, .string q.2.2] 33 (0, 0))
theorem PkAt.kept {w w' : World} {b : Nat} {q : Pk} (h : PkAt w b q) (k : Kept w w') : PkAt w' b q := k b _ _ _ h (by decide) (by decide)
theorem PkAt.cell {w : World} {b : Nat} {q : Pk} (h : PkAt w b q) : w.cell? ⟨b, 2, none⟩ = some (.string q.2.2) := by rw [cell_of_row w b 2 _ _ _ h]; rfl
set_option maxHeartbeats 4000000 in
set_option maxRecDepth 100000 in
theorem lives_any (w : World) : Calls Try.prog 9 #[] w fun e w' => e = .returned (.bool true) ∧ Below w.heap.size w w' := by
  go_enter Try.func9, Try.ntmps9
  go_wp2_with fail
  refine (mine_new (w0 := w) 2 (some ⟨w.heap.size, 0, none⟩) 3 3 lf ((Below.refl _ _).alloc (Nat.le_refl _) _) (lf_row w) (by decide) (by decide) lf_ok).mono ?_; rintro e w1 ⟨p, rfl, hm⟩
  have HM1 := Lib.hid hm
  clear hm
  go_wp2_with fail
  refine (mine_send 0 1 ⟨#[97]⟩ (by decide) ls1 (sml _ rfl (by decide)) HM1.out).mono ?_; rintro e w2 ⟨rfl, hm, _⟩
  have HM2 := Lib.hid hm
  clear hm
  go_wp2_with fail
  refine (mine_next ln1 HM2.out).mono ?_; rintro e w3 ⟨rfl, hm, _⟩
  have HM3 := Lib.hid (hm.below ((Below.refl _ _).alloc (Nat.le_refl _) (.cells #[.int .i64 0, .int .i64 0, .string ⟨#[]⟩] 33)))
  clear hm
  simp only [nextV, pkV, Option.isSome]
  go_upto_region 6 with fail
  go_wp2_with fail
  refine (mine_send 0 1 ⟨#[98]⟩ (by decide) ls2 (sml _ rfl (by decide)) HM3.out).mono ?_; rintro e w4 ⟨rfl, hm, _⟩
  have HM4 := Lib.hid hm
  clear hm
  go_wp2_with fail
  refine (mine_send 0 1 ⟨#[99]⟩ (by decide) ls3 (sml _ rfl (by decide)) HM4.out).mono ?_; rintro e w5 ⟨rfl, hm, _⟩
  have HM5 := Lib.hid hm
  clear hm
  go_wp2_with fail
  refine (mine_send 0 1 ⟨#[100]⟩ (by decide) ls4 (sml _ rfl (by decide)) HM5.out).mono ?_; rintro e w6 ⟨rfl, hm, _⟩
  have HM6 := Lib.hid hm
  clear hm
  go_wp2_with fail
  refine (mine_next ln2 HM6.out).mono ?_; rintro e w7 ⟨rfl, hm, _⟩
  have hpk : PkAt (w7.alloc (.cells #[.int .i64 0, .int .i64 1, .string ⟨#[100]⟩] 33)) w7.heap.size (0, 1, ⟨#[100]⟩) := heap_alloc_new w7 _
  have HM7 := Lib.hid (hm.below ((Below.refl _ _).alloc (Nat.le_refl _) (.cells #[.int .i64 0, .int .i64 1, .string ⟨#[100]⟩] 33)))
  have HX7 := Lib.hid hpk
  obtain ⟨xb, hxb⟩ : ∃ b, w7.heap.size = b := ⟨_, rfl⟩
  rw [hxb] at HX7
  simp only [nextV, pkV, Option.isSome]
  go_upto_region 8 with fail
  obtain ⟨W7, hW7⟩ : ∃ W, w7.alloc (.cells #[.int .i64 0, .int .i64 1, .string ⟨#[100]⟩] 33) = W := ⟨_, rfl⟩
  rw [hW7] at HM7 HX7 ⊢
  try simp only [hxb]
  clear hm hpk hxb hW7
  go_wp2_with fail
  refine (mine_next ln3 HM7.out).mono ?_; rintro e w8 ⟨rfl, hm, hk⟩
  have HX8 := Lib.hid ((HX7.out.kept hk).kept (Kept.of_below ((Below.refl _ _).alloc (Nat.le_refl _) (.cells #[.int .i64 0, .int .i64 1, .string ⟨#[98]⟩] 33))))
  have hpk : PkAt (w8.alloc (.cells #[.int .i64 0, .int .i64 1, .string ⟨#[98]⟩] 33)) w8.heap.size (0, 1, ⟨#[98]⟩) := heap_alloc_new w8 _
  have HM8 := Lib.hid (hm.below ((Below.refl _ _).alloc (Nat.le_refl _) (.cells #[.int .i64 0, .int .i64 1, .string ⟨#[98]⟩] 33)))
  have HY8 := Lib.hid hpk
  obtain ⟨yb, hyb⟩ : ∃ b, w8.heap.size = b := ⟨_, rfl⟩
  rw [hyb] at HY8
  simp only [nextV, pkV, Option.isSome]
  go_upto_region 9 with fail
  obtain ⟨W8, hW8⟩ : ∃ W, w8.alloc (.cells #[.int .i64 0, .int .i64 1, .string ⟨#[98]⟩] 33) = W := ⟨_, rfl⟩
  rw [hW8] at HM8 HX8 HY8 ⊢
  try simp only [hyb]
  clear hm hpk hyb hW8 hk
  go_wp2_with fail
  refine (mine_next ln4 HM8.out).mono ?_; rintro e w9 ⟨rfl, hm, hk⟩
  have HX9 := Lib.hid ((HX8.out.kept hk).kept (Kept.of_below ((Below.refl _ _).alloc (Nat.le_refl _) (.cells #[.int .i64 0, .int .i64 0, .string ⟨#[]⟩] 33))))
  have HY9 := Lib.hid ((HY8.out.kept hk).kept (Kept.of_below ((Below.refl _ _).alloc (Nat.le_refl _) (.cells #[.int .i64 0, .int .i64 0, .string ⟨#[]⟩] 33))))
  have HM9 := Lib.hid (hm.below ((Below.refl _ _).alloc (Nat.le_refl _) (.cells #[.int .i64 0, .int .i64 0, .string ⟨#[]⟩] 33)))
  simp only [nextV, pkV, Option.isSome]
  go_upto_region 10 with fail
  obtain ⟨W9, hW9⟩ : ∃ W, w9.alloc (.cells #[.int .i64 0, .int .i64 0, .string ⟨#[]⟩] 33) = W := ⟨_, rfl⟩
  rw [hW9] at HM9 HX9 HY9 ⊢
  have hx := HX9.out.cell
  have hy := HY9.out.cell
  clear hm hW9 hk
  go_wp2_with fail
  refine (mine_tick (sml _ rfl (by decide)) HM9.out).mono ?_; rintro e w10 ⟨rfl, hm, _⟩
  have HM10 := Lib.hid hm
  clear hm hx hy
  have hone : ((l6.now + 1 : Nat) : Int) = 1 := rfl
  rw [hone]
  go_wp2_with fail
  refine (mine_fly HM10.out).mono ?_; rintro e w11 ⟨a, c, rfl, hm, _⟩
  have HM11 := Lib.hid hm
  have htwo : l6.tick.way.length = 2 := rfl
  rw [htwo]
  clear hm
  go_wp2_with fail
  go_ret
  exact ⟨rfl, HM11.out.1⟩
end Go.Proofs.Ytbmlgnmilolamaa
