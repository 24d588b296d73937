/-
  Records put together and cut off anywhere. No statement is proved here.
-/
import Derived.Test.YthimmdaefmbcjaaDoorFrAllW
namespace Go.Proofs.YthimmdaefmbcjaaDoor
open Go.RowKit
noncomputable def cat (ps : List (List UInt8)) : List UInt8 := ps.flatMap recL
theorem cat_snoc (ps : List (List UInt8)) (k : Nat) (h : k < ps.length) : cat (ps.take (k + 1)) = cat (ps.take k) ++ recL ps[k] := by
  rw [← List.take_append_getElem h, cat, List.flatMap_append, ← cat]; simp
theorem cat_split (ps : List (List UInt8)) (k : Nat) : cat ps = cat (ps.take k) ++ cat (ps.drop k) := by
  rw [cat, cat, cat, ← List.flatMap_append, List.take_append_drop]
theorem cat_drop (ps : List (List UInt8)) (k : Nat) (h : k < ps.length) : cat (ps.drop k) = recL ps[k] ++ cat (ps.drop (k + 1)) := by
  rw [cat, List.drop_eq_getElem_cons h, List.flatMap_cons]; rfl
noncomputable def endAt (ps : List (List UInt8)) (k : Nat) : Nat := (cat (ps.take k)).length
theorem endAt_succ (ps : List (List UInt8)) (k : Nat) (h : k < ps.length) : endAt ps (k + 1) = endAt ps k + 12 + ps[k].length := by
  rw [endAt, cat_snoc ps k h, List.length_append, recL_length, endAt]; omega
theorem endAt_le (ps : List (List UInt8)) (k : Nat) : endAt ps k ≤ (cat ps).length := by
  rw [cat_split ps k, List.length_append]; exact Nat.le_add_right _ _
theorem drop_end (ps : List (List UInt8)) (k cut : Nat) : ((cat ps).take cut).drop (endAt ps k) = (cat (ps.drop k)).take (cut - endAt ps k) := by
  rw [List.drop_take]
  congr 1
  rw [cat_split ps k]
  exact List.drop_left
theorem front_torn (p : List UInt8) (hp : p.length ≤ 131072) (k : Nat) (hk : k < (recL p).length) : frontC ((recL p).take k) = 40 := by
  have hl : ((recL p).take k).length = k := by rw [List.length_take]; omega
  by_cases h12 : k < 12
  · exact front_short _ (by omega)
  · have h4 : ((recL p).take k).take 4 = be p.length 4 := by
      rw [List.take_take, Nat.min_eq_left (by omega), recL, headL, List.append_assoc, List.take_append_of_le_length (by rw [be_length]; omega), List.take_of_length_le (by rw [be_length]; omega)]
    have hl4 : len4 ((recL p).take k) = p.length := by
      rw [len4, h4, beV_be]
      have : (256 : Nat) ^ 4 = 4294967296 := by decide
      omega
    rw [recL_length] at hk
    rw [frontC, if_neg (by omega), if_neg (by omega), if_pos (by omega)]
theorem sofar_torn (ps : List (List UInt8)) (hp : ∀ p ∈ ps, p.length ≤ 131072) (cut : Nat) (hcut : cut ≤ (cat ps).length) (n : Nat) (hn : n ≤ ps.length) (hc : endAt ps n ≤ cut) :
    Sofar ((cat ps).take cut) (ps.take n) (endAt ps n) := by
  induction n with
  | zero => exact Sofar.start _
  | succ n ih =>
    have hlt : n < ps.length := by omega
    have he := endAt_succ ps n hlt
    have ih := ih (by omega) (by omega)
    have hd := drop_end ps n cut
    have hm := hp ps[n] (List.getElem_mem hlt)
    have hr : ((cat ps).take cut).drop (endAt ps n) = headL ps[n] ++ ps[n] ++ (cat (ps.drop (n + 1))).take (cut - endAt ps n - (recL ps[n]).length) := by
      rw [hd, cat_drop ps n hlt, List.take_append, List.take_of_length_le (by rw [recL_length]; omega)]
      rfl
    have hf := front_rec ps[n] ((cat (ps.drop (n + 1))).take (cut - endAt ps n - (recL ps[n]).length)) hm
    rw [← hr] at hf
    have := ih.next (by rw [List.length_take]; omega) hf.1
    rw [hf.2, List.take_append_getElem hlt, ← Nat.add_assoc, ← he] at this
    exact this
theorem torn (ps : List (List UInt8)) (hp : ∀ p ∈ ps, p.length ≤ 131072) (cut : Nat) (hcut : cut ≤ (cat ps).length) (n : Nat) (hn : n ≤ ps.length) (hc : endAt ps n ≤ cut) (hx : n < ps.length → cut < endAt ps (n + 1)) :
    allL ((cat ps).take cut) = (ps.take n, endAt ps n, if endAt ps n = cut then 0 else 40) := by
  have h := sofar_torn ps hp cut hcut n hn hc
  have hl : ((cat ps).take cut).length = cut := by rw [List.length_take]; omega
  by_cases he : endAt ps n = cut
  · rw [if_pos he, h.end_ (by omega)]
  · rw [if_neg he]
    have hlt : n < ps.length := by
      apply Decidable.byContradiction
      intro hge
      have : n = ps.length := by omega
      have h2 : endAt ps n = (cat ps).length := by rw [endAt, this, List.take_length]
      omega
    have hc2 := hx hlt
    rw [endAt_succ ps n hlt] at hc2
    have hm := hp ps[n] (List.getElem_mem hlt)
    have hd : ((cat ps).take cut).drop (endAt ps n) = (recL ps[n]).take (cut - endAt ps n) := by
      rw [drop_end ps n cut, cat_drop ps n hlt, List.take_append_of_le_length (by rw [recL_length]; omega)]
    have hf := front_torn ps[n] hm (cut - endAt ps n) (by rw [recL_length]; omega)
    rw [← hd] at hf
    rw [h.bad (by omega) (by rw [hf]; decide), hf]
end Go.Proofs.YthimmdaefmbcjaaDoor
