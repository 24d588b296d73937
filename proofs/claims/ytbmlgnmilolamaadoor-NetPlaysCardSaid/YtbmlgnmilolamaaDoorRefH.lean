/-
  The document's Send, whole. No statement is proved here.
-/
import Derived.Test.YtbmlgnmilolamaaDoorRefG
namespace Go.Proofs.YtbmlgnmilolamaaDoor
open Go.RowKit
set_option maxHeartbeats 4000000 in
set_option maxRecDepth 100000 in
theorem rSend_at (ρ : NetS) (hlen : ρ.way.length ≤ 4096) (hfk : ρ.fate.2.1 ≤ 3 ∧ ρ.fate.2.2 ≤ 100) (hnow : ρ.now < 1125899906842624) (hsent : ρ.sent < 1125899906842624) (x y : Int) (s : ByteArray) (p : Nat) (fv wv : Value) (w : World) (h : RefAt w p fv wv ρ) (hss : s.size ≤ 140737488355328) :
    Calls Tryd.prog 14 #[.pointer (some ⟨p, 0, none⟩), .int .i64 x, .int .i64 y, .string s] w (RSendIs (ρ.rsend x y s) w p fv wv) := by
  have HN := Lib.hid h
  have H2 := Lib.hid (rend_at h x)
  have H3 := Lib.hid (rend_at h y)
  unfold NetS.rsend
  by_cases hx : ρ.isEnd x
  · by_cases hy : ρ.isEnd y
    · rw [if_neg (fun h => h ⟨hx, hy⟩)]
      rw [decide_eq_true hx] at H2
      rw [decide_eq_true hy] at H3
      by_cases hl : 1048576 < s.size
      · rw [if_pos hl]
        clear h
        go_enter Tryd.func14, Tryd.ntmps14
        go_wp2_with fail
        refine H2.out.mono ?_; rintro e w' ⟨rfl, rfl⟩
        go_wp2_with fail
        refine H3.out.mono ?_; rintro e w' ⟨rfl, rfl⟩
        go_wp2_with fail
        go_ret
        exact ⟨RefTo.same HN.out (Below.refl _ _), rfl⟩
      · rw [if_neg hl]
        exact rSend_go ρ hlen hfk hnow hsent x y s p fv wv w h hx hy (by omega)
    · rw [if_pos (fun h => hy h.2)]
      rw [decide_eq_true hx] at H2
      rw [decide_eq_false hy] at H3
      clear h
      go_enter Tryd.func14, Tryd.ntmps14
      go_wp2_with fail
      refine H2.out.mono ?_; rintro e w' ⟨rfl, rfl⟩
      go_wp2_with fail
      refine H3.out.mono ?_; rintro e w' ⟨rfl, rfl⟩
      go_wp2_with fail
      go_ret
      exact ⟨RefTo.same HN.out (Below.refl _ _), rfl⟩
  · rw [if_pos (fun h => hx h.1)]
    rw [decide_eq_false hx] at H2
    clear h
    go_enter Tryd.func14, Tryd.ntmps14
    go_wp2_with fail
    refine H2.out.mono ?_; rintro e w' ⟨rfl, rfl⟩
    go_wp2_with fail
    go_ret
    exact ⟨RefTo.same HN.out (Below.refl _ _), rfl⟩
end Go.Proofs.YtbmlgnmilolamaaDoor
