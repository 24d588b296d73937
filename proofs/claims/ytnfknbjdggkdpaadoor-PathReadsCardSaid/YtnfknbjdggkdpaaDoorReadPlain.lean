/-
  What a file's name says, in plain lists. No statement is proved here.
-/
import Derived.Test.YtnfknbjdggkdpaaDoorPathD
namespace Go.Proofs.YtnfknbjdggkdpaaDoor
open Go.RowKit
def LogN (l : List UInt8) (n : Nat) : Prop := 1 ≤ n ∧ n ≤ 99999999 ∧ l = logT n
def StageN (l : List UInt8) (n : Nat) : Prop := 1 ≤ n ∧ n ≤ 2147483647 ∧ l = stageT n
def PageN (l m : List UInt8) : Prop := isN m = true ∧ l = pageT m
def BlobN (l : List UInt8) (s n : Nat) : Prop := s < 18446744073709551616 ∧ 1 ≤ n ∧ n < 4294967296 ∧ l = blobT s n
abbrev PR := Nat × Nat × Nat × Nat × List UInt8
open Classical in
/-- What a text says: kind, number, sum, part, name. -/
noncomputable def readR (l : List UInt8) : Option PR :=
  if LogN l (valD (l.drop 4)) then some (1, valD (l.drop 4), 0, 0, []) else if StageN l (valD (l.drop 6)) then some (4, valD (l.drop 6), 0, 0, []) else
  if PageN l (l.drop 5) then some (3, 0, 0, 0, l.drop 5) else if BlobN l (hexVal ((l.drop 5).take 16)) (valD (l.drop 22)) then some (2, 0, hexVal ((l.drop 5).take 16), valD (l.drop 22), []) else none
theorem valD_of (l : List UInt8) (n : Nat) (h : dval 0 l = some n) : valD l = n := by rw [valD, h]; rfl
theorem LogN.val {l : List UInt8} {n : Nat} (h : LogN l n) : valD (l.drop 4) = n := by
  rw [h.2.2, logT, show (4 : Nat) = logH.length from rfl, List.drop_left]
  exact valD_of _ _ (dval_pad8 n)
theorem StageN.val {l : List UInt8} {n : Nat} (h : StageN l n) : valD (l.drop 6) = n := by
  rw [h.2.2, stageT, show (6 : Nat) = stageH.length from rfl, List.drop_left]
  exact valD_of _ _ (dval_dec n)
theorem PageN.val {l m : List UInt8} (h : PageN l m) : l.drop 5 = m := by
  rw [h.2, pageT, show (5 : Nat) = pageH.length from rfl, List.drop_left]
theorem BlobN.val {l : List UInt8} {s n : Nat} (h : BlobN l s n) : hexVal ((l.drop 5).take 16) = s ∧ valD (l.drop 22) = n := by
  have e5 : l.drop 5 = hexl s 16 ++ (45 :: Lib.decDigits n) := by rw [h.2.2.2, blobT, show (5 : Nat) = blobH.length from rfl, List.drop_left]
  have h16 := hexl_length s 16
  constructor
  · rw [e5, List.take_append_of_le_length (by omega), List.take_of_length_le (by omega)]
    exact (hex_back s h.1).1
  · have e22 : l.drop 22 = Lib.decDigits n := by
      have e1 : l.drop 22 = (l.drop 5).drop 17 := by rw [List.drop_drop]
      have e2 : hexl s 16 ++ (45 :: Lib.decDigits n) = (hexl s 16 ++ [45]) ++ Lib.decDigits n := by simp
      rw [e1, e5, e2, List.drop_left' (by simp [h16])]
    rw [e22]
    exact valD_of _ _ (dval_dec n)
theorem head_log {l : List UInt8} {n : Nat} (h : LogN l n) : l.head? = some 108 := by rw [h.2.2]; rfl
theorem head_stage {l : List UInt8} {n : Nat} (h : StageN l n) : l.head? = some 115 := by rw [h.2.2]; rfl
theorem head_page {l m : List UInt8} (h : PageN l m) : l.head? = some 112 := by rw [h.2]; rfl
theorem head_blob {l : List UInt8} {s n : Nat} (h : BlobN l s n) : l.head? = some 98 := by rw [h.2.2.2]; rfl
theorem clash {l : List UInt8} {a b : UInt8} (h1 : l.head? = some a) (h2 : l.head? = some b) (h : a ≠ b) : False := h (Option.some.inj (h1.symm.trans h2))
theorem readR_log {l : List UInt8} {n : Nat} (h : LogN l n) : readR l = some (1, n, 0, 0, []) := by
  have e := h.val
  rw [readR, e, if_pos h]
theorem readR_stage {l : List UInt8} {n : Nat} (h : StageN l n) : readR l = some (4, n, 0, 0, []) := by
  have e := h.val
  rw [readR, e, if_neg (fun x => clash (head_log x) (head_stage h) (by decide)), if_pos h]
theorem readR_page {l m : List UInt8} (h : PageN l m) : readR l = some (3, 0, 0, 0, m) := by
  have e := h.val
  rw [readR, e, if_neg (fun x => clash (head_log x) (head_page h) (by decide)), if_neg (fun x => clash (head_stage x) (head_page h) (by decide)), if_pos h]
theorem readR_blob {l : List UInt8} {s n : Nat} (h : BlobN l s n) : readR l = some (2, 0, s, n, []) := by
  obtain ⟨e1, e2⟩ := h.val
  rw [readR, e1, e2, if_neg (fun x => clash (head_log x) (head_blob h) (by decide)), if_neg (fun x => clash (head_stage x) (head_blob h) (by decide)), if_neg (fun x => clash (head_page x) (head_blob h) (by decide)), if_pos h]
theorem readR_none {l : List UInt8} (h1 : ∀ n, ¬ LogN l n) (h2 : ∀ n, ¬ StageN l n) (h3 : ∀ m, ¬ PageN l m) (h4 : ∀ s n, ¬ BlobN l s n) : readR l = none := by
  rw [readR, if_neg (h1 _), if_neg (h2 _), if_neg (h3 _), if_neg (h4 _ _)]
/-- The one way to cut. -/
theorem cut_unique (c : UInt8) : ∀ (a h b r : List UInt8), a ++ c :: b = h ++ c :: r → c ∉ a → c ∉ h → a = h ∧ b = r := by
  intro a
  induction a with
  | nil =>
    intro h b r e _ hh
    cases h with
    | nil => injection e with _ e; exact ⟨rfl, e⟩
    | cons d h =>
      injection e with e1 e2
      exact absurd (by simp [e1]) hh
  | cons d a ih =>
    intro h b r e ha hh
    cases h with
    | nil =>
      injection e with e1 e2
      exact absurd (by simp [e1]) ha
    | cons d' h =>
      injection e with e1 e2
      obtain ⟨q1, q2⟩ := ih h b r e2 (fun x => ha (List.mem_cons_of_mem _ x)) (fun x => hh (List.mem_cons_of_mem _ x))
      exact ⟨by rw [e1, q1], q2⟩
theorem IsCut.of {s h r : ByteArray} {c : UInt8} {f : Bool} (hc : IsCut s c h r f) {a b : List UInt8} (hs : s.data.toList = a ++ c :: b) (ha : c ∉ a) : h.data.toList = a ∧ r.data.toList = b ∧ f = true := by
  rcases hc with ⟨hf, h1, h2⟩ | ⟨_, _, _, h4⟩
  · obtain ⟨e1, e2⟩ := cut_unique c a _ b _ (hs.symm.trans h1) ha h2
    exact ⟨e1.symm, e2.symm, hf⟩
  · exact absurd (by rw [hs]; simp) h4
def logK : List UInt8 := [108, 111, 103]
def stageK : List UInt8 := [115, 116, 97, 103, 101]
def pageK : List UInt8 := [112, 97, 103, 101]
def blobK : List UInt8 := [98, 108, 111, 98]
section
variable {s h r : ByteArray} {f : Bool} (hc : IsCut s 47 h r f)
include hc
theorem cut_log {n : Nat} (x : LogN s.data.toList n) : h.data.toList = logK ∧ r.data.toList = pad8 n :=
  have e := hc.of (a := logK) (b := pad8 n) x.2.2 (by decide)
  ⟨e.1, e.2.1⟩
theorem cut_stage {n : Nat} (x : StageN s.data.toList n) : h.data.toList = stageK ∧ r.data.toList = Lib.decDigits n :=
  have e := hc.of (a := stageK) (b := Lib.decDigits n) x.2.2 (by decide)
  ⟨e.1, e.2.1⟩
theorem cut_page {m : List UInt8} (x : PageN s.data.toList m) : h.data.toList = pageK ∧ r.data.toList = m :=
  have e := hc.of (a := pageK) (b := m) x.2 (by decide)
  ⟨e.1, e.2.1⟩
theorem cut_blob {a n : Nat} (x : BlobN s.data.toList a n) : h.data.toList = blobK ∧ r.data.toList = hexl a 16 ++ 45 :: Lib.decDigits n :=
  have e := hc.of (a := blobK) (b := hexl a 16 ++ 45 :: Lib.decDigits n) x.2.2.2 (by decide)
  ⟨e.1, e.2.1⟩
end
theorem numP_of (l : List UInt8) (n : Nat) (h : dval 0 l = some n) (hn : n ≤ 1099511627776) : numP 0 l = n := by
  rcases (numP_val l 0 (by omega)).2.1 n h with h | ⟨_, h⟩
  · exact h
  · omega
theorem numP_pad8 (n : Nat) (h : n ≤ 99999999) : numP 0 (pad8 n) = n := numP_of _ _ (dval_pad8 n) (by omega)
theorem numP_dec (n : Nat) (h : n ≤ 1099511627776) : numP 0 (Lib.decDigits n) = n := numP_of _ _ (dval_dec n) h
theorem numR_of (l : List UInt8) (n : Nat) (h : dval 0 l = some n) (h0 : l ≠ []) (hl : l.length ≤ 10) : numR' l = n := by
  rw [numR', if_neg (fun x => x.elim h0 (by omega)), h]
theorem dec_ne (n : Nat) : Lib.decDigits n ≠ [] := by
  intro h
  have := Lib.decDigits_length n
  rw [h] at this
  have := Lib.nDigits_pos n
  simp at *
  omega
theorem numR_pad8 (n : Nat) (h : n ≤ 99999999) : numR' (pad8 n) = n := by
  refine numR_of _ _ (dval_pad8 n) ?_ ?_
  · intro e; have := pad8_len n h; rw [e] at this; simp at this
  · rw [pad8_len n h]; omega
theorem numR_dec (n : Nat) (h : n < 10000000000) : numR' (Lib.decDigits n) = n := numR_of _ _ (dval_dec n) (dec_ne n) (dec_len 9 n h)
theorem numR_ge (l : List UInt8) : -1 ≤ numR' l := by
  rw [numR']
  split
  · omega
  · split <;> omega
theorem hexd_ne (d : Nat) (h : d < 16) : hexd d ≠ 45 := by
  have : ∀ d : Fin 16, hexd d.1 ≠ 45 := by decide
  exact this ⟨d, h⟩
theorem hexl_ne (n k : Nat) : (45 : UInt8) ∉ hexl n k := by
  induction k with
  | zero => simp [hexl]
  | succ k ih =>
    rw [hexl]
    intro h
    rcases List.mem_cons.1 h with h | h
    · exact hexd_ne _ (Nat.mod_lt _ (by decide)) h.symm
    · exact ih h
theorem rdf_lt (l : List UInt8) : ∀ n v, rdf n l = some v → v < (n + 1) * 16 ^ l.length := by
  induction l with
  | nil => intro n v h; rw [rdf] at h; injection h with h; simp; omega
  | cons c l ih =>
    intro n v h
    cases hd : dig c with
    | none => rw [rdf_none _ _ _ hd] at h; cases h
    | some d =>
      rw [rdf_some _ _ _ _ hd] at h
      have h1 := ih _ _ h
      have h2 := dig_lt _ _ hd
      have h3 : (n * 16 + d + 1) * 16 ^ l.length ≤ ((n + 1) * 16) * 16 ^ l.length := Nat.mul_le_mul_right _ (by omega)
      rw [List.length_cons, Nat.pow_succ, Nat.mul_comm (16 ^ l.length) 16, ← Nat.mul_assoc]
      omega
theorem hexVal_lt (l : List UInt8) : hexVal l < 18446744073709551616 := by
  unfold hexVal hexRead
  by_cases h : l.length = 16
  · rw [if_pos h]
    cases hr : rdf 0 l with
    | none => simp
    | some v =>
      have := rdf_lt l 0 v hr
      rw [h] at this
      simpa using this
  · rw [if_neg h]; simp
end Go.Proofs.YtnfknbjdggkdpaaDoor
