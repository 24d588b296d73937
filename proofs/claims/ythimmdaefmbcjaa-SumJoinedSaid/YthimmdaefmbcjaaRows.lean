/-
  No cell of these rows narrows 'for every input' (looked for: loops, veiled, ifaces, maps, wideKeys, modest, calm, conditions, laid).
  DERIVED. THE GIVEN ROWS OF THIS SEAT. 5 by the template 'for every input the law returns true; each argument reads behind the call as it read before'; 0 by the template 'total and deterministic' (their statements: YthimmdaefmbcjaaTotals.lean).
  GIVEN WITH THE SEED: the statements are not yours to turn. If you find one false, say at which input.
  Laid BY PROGRAM, IN A SANDBOX (cutbox-rows.mjs): the forced cells as the released guide's own fill.sh prints them over the translation 8a28debb90fe0196… (all of the seat's roots in one cut). By AI agents, Wed Nov 11 2026. No macro, syntax, notation, axiom, sorry.
-/
import Derived.Test.YthimmdaefmbcjaaChecked
import GoSem.Claim
import GoSem.ClaimJoined
import GoSem.ClaimMapViews
import Derived.JoinedTies
import Derived.KernelRfl
namespace Go.Proofs.Ythimmdaefmbcjaa
/- THE CELL 'sum', in the pinned program and in every row, IS THE sha256 OF THE DUMP (.gsa) THAT YthimmdaefmbcjaaProg.lean LOADS. Nothing in Lean hashes anything: it is a label: what it is worth is what the hold of that sum in a sandbox is worth. -/
noncomputable def Try.pinned : Pinned := { name := "ythimmdaefmbcjaa", sum := "8a28debb90fe0196e322d58be341183a4afa7dadd6887c2ddfc86bf1124b0bce", checked := Try.checked }
namespace Rows
def none {H : Type} : Left H := { results := [], args := [] }

/-- 'yanklinelaw01.SumOfs': WHATEVER THE INPUT: true; the input reads as it did. -/
def sumOfsSpec : ChangeSpec := { name := "sumOfs", fn := fun _ => fun
  | [d1, d2] => { results := [.lit (.bool true)], args := [d1, d2] }
  | _ => none }
def sumOfsRow : OpenClaim := { program := "ythimmdaefmbcjaa", sum := "8a28debb90fe0196e322d58be341183a4afa7dadd6887c2ddfc86bf1124b0bce", func := "yankline/yanklinelaw01.SumOfs", spec := "sumOfs", apart := false }
def SumOfsSaid : Prop := sumOfsRow.holds Try.pinned (OpenSpec.ofChange sumOfsSpec)

/-- ITS FALSE NEIGHBOUR: 'it returns false'. Refute it at one input. -/
def sumOfsWrong : ChangeSpec := { name := "sumOfs", fn := fun _ => fun
  | [d1, d2] => { results := [.lit (.bool false)], args := [d1, d2] }
  | _ => none }
def SumOfsWrongFalsely : Prop := sumOfsRow.holds Try.pinned (OpenSpec.ofChange sumOfsWrong)

/-- 'yanklinelaw01.SumTexts': WHATEVER THE INPUT: true; the input reads as it did. -/
def sumTextsSpec : ChangeSpec := { name := "sumTexts", fn := fun _ => fun
  | [d1, d2] => { results := [.lit (.bool true)], args := [d1, d2] }
  | _ => none }
def sumTextsRow : OpenClaim := { program := "ythimmdaefmbcjaa", sum := "8a28debb90fe0196e322d58be341183a4afa7dadd6887c2ddfc86bf1124b0bce", func := "yankline/yanklinelaw01.SumTexts", spec := "sumTexts", apart := false }
def SumTextsSaid : Prop := sumTextsRow.holds Try.pinned (OpenSpec.ofChange sumTextsSpec)

/-- ITS FALSE NEIGHBOUR: 'it returns false'. Refute it at one input. -/
def sumTextsWrong : ChangeSpec := { name := "sumTexts", fn := fun _ => fun
  | [d1, d2] => { results := [.lit (.bool false)], args := [d1, d2] }
  | _ => none }
def SumTextsWrongFalsely : Prop := sumTextsRow.holds Try.pinned (OpenSpec.ofChange sumTextsWrong)

/-- 'yanklinelaw01.SumByte': WHATEVER THE INPUT: true; the input reads as it did. -/
def sumByteSpec : ChangeSpec := { name := "sumByte", fn := fun _ => fun
  | [d1, d2, d3] => { results := [.lit (.bool true)], args := [d1, d2, d3] }
  | _ => none }
def sumByteRow : OpenClaim := { program := "ythimmdaefmbcjaa", sum := "8a28debb90fe0196e322d58be341183a4afa7dadd6887c2ddfc86bf1124b0bce", func := "yankline/yanklinelaw01.SumByte", spec := "sumByte", apart := false }
def SumByteSaid : Prop := sumByteRow.holds Try.pinned (OpenSpec.ofChange sumByteSpec)

/-- ITS FALSE NEIGHBOUR: 'it returns false'. Refute it at one input. -/
def sumByteWrong : ChangeSpec := { name := "sumByte", fn := fun _ => fun
  | [d1, d2, d3] => { results := [.lit (.bool false)], args := [d1, d2, d3] }
  | _ => none }
def SumByteWrongFalsely : Prop := sumByteRow.holds Try.pinned (OpenSpec.ofChange sumByteWrong)

/-- 'yanklinelaw01.SumLists': WHATEVER THE INPUT: true; the input reads as it did. -/
def sumListsSpec : ChangeSpec := { name := "sumLists", fn := fun _ => fun
  | [d] => { results := [.lit (.bool true)], args := [d] }
  | _ => none }
def sumListsRow : OpenClaim := { program := "ythimmdaefmbcjaa", sum := "8a28debb90fe0196e322d58be341183a4afa7dadd6887c2ddfc86bf1124b0bce", func := "yankline/yanklinelaw01.SumLists", spec := "sumLists", apart := false }
def SumListsSaid : Prop := sumListsRow.holds Try.pinned (OpenSpec.ofChange sumListsSpec)

/-- ITS FALSE NEIGHBOUR: 'it returns false'. Refute it at one input. -/
def sumListsWrong : ChangeSpec := { name := "sumLists", fn := fun _ => fun
  | [d] => { results := [.lit (.bool false)], args := [d] }
  | _ => none }
def SumListsWrongFalsely : Prop := sumListsRow.holds Try.pinned (OpenSpec.ofChange sumListsWrong)

/-- 'yanklinelaw01.SumJoined': WHATEVER THE INPUT: true; the input reads as it did. -/
def sumJoinedSpec : ChangeSpec := { name := "sumJoined", fn := fun _ => fun
  | [d1, d2, d3] => { results := [.lit (.bool true)], args := [d1, d2, d3] }
  | _ => none }
def sumJoinedRow : OpenClaim := { program := "ythimmdaefmbcjaa", sum := "8a28debb90fe0196e322d58be341183a4afa7dadd6887c2ddfc86bf1124b0bce", func := "yankline/yanklinelaw01.SumJoined", spec := "sumJoined", apart := false }
def SumJoinedSaid : Prop := sumJoinedRow.holds Try.pinned (OpenSpec.ofChange sumJoinedSpec)

/-- ITS FALSE NEIGHBOUR: 'it returns false'. Refute it at one input. -/
def sumJoinedWrong : ChangeSpec := { name := "sumJoined", fn := fun _ => fun
  | [d1, d2, d3] => { results := [.lit (.bool false)], args := [d1, d2, d3] }
  | _ => none }
def SumJoinedWrongFalsely : Prop := sumJoinedRow.holds Try.pinned (OpenSpec.ofChange sumJoinedWrong)

/- THE SECOND FORM. 'bulk': how many values and letters a reading holds, each counted each time it is reached (what is shared counts as often as it is met; a slice's spare places count too). A statement '..UptoSaid' is the law's where the arguments, and the package variables that the reading takes, are together of bulk at most 1048576: NARROWER than '..Said'. Prove '..Said' where nothing that the law and all that it calls make is longer than what came in: it says more and counts as full. Else prove '..UptoSaid'. A law counts once. -/
mutual
def uptoBulk {H : Type} : DataW H → Nat
  | .lit (.string bytes) => bytes.length + 1
  | .lit _ => 1
  | .nil => 1
  | .ptr d => uptoBulk d + 1
  | .slice elems spare => uptoBulkAll elems + uptoBulkAll spare + 1
  | .agg parts => uptoBulkAll parts + 1
  | .iface _ d => uptoBulk d + 1
  | .map entries => uptoBulkEntries entries + 1
  | .held _ => 1
def uptoBulkAll {H : Type} : List (DataW H) → Nat
  | [] => 0
  | d :: r => uptoBulk d + uptoBulkAll r
def uptoBulkEntries {H : Type} : List (Lit × DataW H) → Nat
  | [] => 0
  | x :: r => uptoBulkEntry x + uptoBulkEntries r
def uptoBulkEntry {H : Type} : Lit × DataW H → Nat
  | (.string bytes, d) => bytes.length + uptoBulk d + 1
  | (_, d) => uptoBulk d + 1
 end
def uptoSmall : (H : Type) → List (DataW H) → Bool := fun _ ds => decide (uptoBulkAll ds ≤ 1048576)
def OpenSpec.upto (s : _root_.Go.ChangeSpec) : _root_.Go.OpenSpec := { _root_.Go.OpenSpec.ofChange s with cond := some uptoSmall }

/-- 'yanklinelaw01.SumOfs', WHERE WHAT IT READS IS OF BULK AT MOST 1048576: true; the input reads as it did. -/
def sumOfsUptoRow : OpenClaim := { program := "ythimmdaefmbcjaa", sum := "8a28debb90fe0196e322d58be341183a4afa7dadd6887c2ddfc86bf1124b0bce", func := "yankline/yanklinelaw01.SumOfs", spec := "sumOfs", apart := false, narrowed := true }
def SumOfsUptoSaid : Prop := sumOfsUptoRow.holds Try.pinned (OpenSpec.upto sumOfsSpec)

/-- 'yanklinelaw01.SumTexts', WHERE WHAT IT READS IS OF BULK AT MOST 1048576: true; the input reads as it did. -/
def sumTextsUptoRow : OpenClaim := { program := "ythimmdaefmbcjaa", sum := "8a28debb90fe0196e322d58be341183a4afa7dadd6887c2ddfc86bf1124b0bce", func := "yankline/yanklinelaw01.SumTexts", spec := "sumTexts", apart := false, narrowed := true }
def SumTextsUptoSaid : Prop := sumTextsUptoRow.holds Try.pinned (OpenSpec.upto sumTextsSpec)

/-- 'yanklinelaw01.SumByte', WHERE WHAT IT READS IS OF BULK AT MOST 1048576: true; the input reads as it did. -/
def sumByteUptoRow : OpenClaim := { program := "ythimmdaefmbcjaa", sum := "8a28debb90fe0196e322d58be341183a4afa7dadd6887c2ddfc86bf1124b0bce", func := "yankline/yanklinelaw01.SumByte", spec := "sumByte", apart := false, narrowed := true }
def SumByteUptoSaid : Prop := sumByteUptoRow.holds Try.pinned (OpenSpec.upto sumByteSpec)

/-- 'yanklinelaw01.SumLists', WHERE WHAT IT READS IS OF BULK AT MOST 1048576: true; the input reads as it did. -/
def sumListsUptoRow : OpenClaim := { program := "ythimmdaefmbcjaa", sum := "8a28debb90fe0196e322d58be341183a4afa7dadd6887c2ddfc86bf1124b0bce", func := "yankline/yanklinelaw01.SumLists", spec := "sumLists", apart := false, narrowed := true }
def SumListsUptoSaid : Prop := sumListsUptoRow.holds Try.pinned (OpenSpec.upto sumListsSpec)

/-- 'yanklinelaw01.SumJoined', WHERE WHAT IT READS IS OF BULK AT MOST 1048576: true; the input reads as it did. -/
def sumJoinedUptoRow : OpenClaim := { program := "ythimmdaefmbcjaa", sum := "8a28debb90fe0196e322d58be341183a4afa7dadd6887c2ddfc86bf1124b0bce", func := "yankline/yanklinelaw01.SumJoined", spec := "sumJoined", apart := false, narrowed := true }
def SumJoinedUptoSaid : Prop := sumJoinedUptoRow.holds Try.pinned (OpenSpec.upto sumJoinedSpec)

end Rows
end Go.Proofs.Ythimmdaefmbcjaa
