/-
  The text of a fault: it is not empty. No statement is proved here.
-/
import Derived.Test.YtnfknbjdggkdpaaDoorItoaW
import Derived.Test.YtnfknbjdggkdpaaDoorErrIs
namespace Go.Proofs.YtnfknbjdggkdpaaDoor
open Go.RowKit Go.Lib
def SomeText (lo hi : Nat) (w : World) (e : Ending) (w' : World) : Prop := ∃ s : ByteArray, lo ≤ s.size ∧ s.size ≤ hi ∧ e = .returned (.string s) ∧ Below w.heap.size w w'
theorem size_lit6 : (⟨#[101, 114, 114, 111, 114, 32]⟩ : ByteArray).size = 6 := by decide
theorem size_lit4 : (⟨#[32, 97, 116, 32]⟩ : ByteArray).size = 4 := by decide
theorem errno_text (c : Nat) (hc : c < 100) (w : World) : Calls Tryd.prog 142 #[.int .i64 c] w (SomeText 6 30 w) := by
  have hi := Tryd.strconv_Itoa_small c hc w
  have hs : (⟨(Lib.decDigits c).toArray⟩ : ByteArray).size ≤ 24 := by
    rw [ba_size, Lib.decDigits_length]; have := Lib.nDigits_le20 c (by omega); omega
  generalize (⟨(Lib.decDigits c).toArray⟩ : ByteArray) = s at hi hs
  have HI := Lib.hid hi
  clear hi
  have h6 := size_lit6
  go_enter Tryd.func142, Tryd.ntmps142
  go_wp2_with fail
  refine HI.out.mono ?_; rintro e w' ⟨rfl, rfl⟩
  go_wp2_with fail
  go_ret
  exact ⟨_, by rw [ByteArray.size_append, size_lit6]; omega, by rw [ByteArray.size_append, size_lit6]; omega, rfl, Below.refl _ _⟩
theorem error_text (b : Nat) (c : Nat) (at_ : Int) (hc : c < 100) (ha : at_ ≤ 9223372036854775807) (w : World) (h : FaultAt w b c at_) (hT : TabAny w) :
    Calls Tryd.prog 143 #[.pointer (some ⟨b, 0, none⟩)] w (SomeText 1 100 w) := by
  obtain ⟨h0, h1, h2, h3⟩ := h
  have HT := Lib.hid hT
  clear hT
  by_cases hn : 0 ≤ at_
  · obtain ⟨u, rfl⟩ := Int.eq_ofNat_of_zero_le hn
    have hu : 0 ≤ (u : Int) := hn
    clear hn
    go_enter Tryd.func143, Tryd.ntmps143
    go_wp2_with fail
    refine (errno_text c hc _).mono ?_; rintro e w1 ⟨s, hs1, hs2, rfl, hb⟩
    have hF : FaultAt w1 b c u := FaultAt.below ⟨h0, h1, h2, h3⟩ hb
    obtain ⟨g0, g1, g2, g3⟩ := hF
    go_wp2_with fail
    refine (Itoa_any u (by omega) _ (HT.out.below hb)).mono ?_; rintro e w2 ⟨s2, hs3, rfl, hb2⟩
    have hF : FaultAt w2 b c u := FaultAt.below ⟨g0, g1, g2, g3⟩ hb2
    obtain ⟨k0, k1, k2, k3⟩ := hF
    go_wp2_with fail
    go_ret
    exact ⟨s ++ ((⟨#[32, 97, 116, 32]⟩ : ByteArray) ++ s2), by rw [ByteArray.size_append]; omega, by rw [ByteArray.size_append, ByteArray.size_append, size_lit4]; omega, rfl, hb.trans (hb2.mono hb.size)⟩
  · have hn' : at_ < 0 := by omega
    clear hn
    go_enter Tryd.func143, Tryd.ntmps143
    go_wp2_with fail
    refine (errno_text c hc _).mono ?_; rintro e w1 ⟨s, hs1, hs2, rfl, hb⟩
    have hF : FaultAt w1 b c at_ := FaultAt.below ⟨h0, h1, h2, h3⟩ hb
    obtain ⟨g0, g1, g2, g3⟩ := hF
    go_wp2_with fail
    go_ret
    exact ⟨s, by omega, by omega, rfl, hb⟩
end Go.Proofs.YtnfknbjdggkdpaaDoor
