/-
  No cell of these rows narrows 'for every input' (looked for: loops, veiled, ifaces, maps, wideKeys, modest, calm, conditions, laid).
  DERIVED. THE GIVEN ROWS OF THIS SEAT. 2 by the template 'for every input the law returns true; each argument reads behind the call as it read before'; 0 by the template 'total and deterministic' (their statements: YtlgcebmdpclkgaaGreatTotals.lean).
  GIVEN WITH THE SEED: the statements are not yours to turn. If you find one false, say at which input.
  Laid BY PROGRAM, IN A SANDBOX (cutbox-rows.mjs): the forced cells as the released guide's own fill.sh prints them over the translation 61a067c70606a6aa… (all of the seat's roots in one cut). By AI agents, Wed Nov 11 2026. No macro, syntax, notation, axiom, sorry.
-/
import Derived.Test.YtlgcebmdpclkgaaGreatChecked
import GoSem.Claim
import GoSem.ClaimJoined
import GoSem.ClaimMapViews
import Derived.JoinedTies
import Derived.KernelRfl
namespace Go.Proofs.YtlgcebmdpclkgaaGreat
/- THE CELL 'sum', in the pinned program and in every row, IS THE sha256 OF THE DUMP (.gsa) THAT YtlgcebmdpclkgaaGreatProg.lean LOADS. Nothing in Lean hashes anything: it is a label: what it is worth is what the hold of that sum in a sandbox is worth. -/
noncomputable def Tryz.pinned : Pinned := { name := "ytlgcebmdpclkgaagreat", sum := "61a067c70606a6aa31509db7dc98da768dc3a9bfdbb6a6e72542ce534388f587", checked := Tryz.checked }
namespace Rows
def none {H : Type} : Left H := { results := [], args := [] }

/-- 'portcullislaw25.ArmSums': WHATEVER THE INPUT: true; the input reads as it did. -/
def armSumsSpec : ChangeSpec := { name := "armSums", fn := fun _ => fun
  | [d1, d2] => { results := [.lit (.bool true)], args := [d1, d2] }
  | _ => none }
def armSumsRow : OpenClaim := { program := "ytlgcebmdpclkgaagreat", sum := "61a067c70606a6aa31509db7dc98da768dc3a9bfdbb6a6e72542ce534388f587", func := "portcullis/portcullislaw25.ArmSums", spec := "armSums", unfollowed := true, recurses := true, apart := false }
def ArmSumsSaid : Prop := armSumsRow.holds Tryz.pinned (OpenSpec.ofChange armSumsSpec)

/-- ITS FALSE NEIGHBOUR: 'it returns false'. Refute it at one input. -/
def armSumsWrong : ChangeSpec := { name := "armSums", fn := fun _ => fun
  | [d1, d2] => { results := [.lit (.bool false)], args := [d1, d2] }
  | _ => none }
def ArmSumsWrongFalsely : Prop := armSumsRow.holds Tryz.pinned (OpenSpec.ofChange armSumsWrong)

/-- 'portcullislaw24.X86Sums': WHATEVER THE INPUT: true; the input reads as it did. -/
def x86SumsSpec : ChangeSpec := { name := "x86Sums", fn := fun _ => fun
  | [d1, d2] => { results := [.lit (.bool true)], args := [d1, d2] }
  | _ => none }
def x86SumsRow : OpenClaim := { program := "ytlgcebmdpclkgaagreat", sum := "61a067c70606a6aa31509db7dc98da768dc3a9bfdbb6a6e72542ce534388f587", func := "portcullis/portcullislaw24.X86Sums", spec := "x86Sums", inPlace := ["math/bits.Add64"], unfollowed := true, recurses := true, named := ["math/bits.divideError", "math/bits.overflowError"], apart := false }
def X86SumsSaid : Prop := x86SumsRow.holds Tryz.pinned (OpenSpec.ofChange x86SumsSpec)

/-- ITS FALSE NEIGHBOUR: 'it returns false'. Refute it at one input. -/
def x86SumsWrong : ChangeSpec := { name := "x86Sums", fn := fun _ => fun
  | [d1, d2] => { results := [.lit (.bool false)], args := [d1, d2] }
  | _ => none }
def X86SumsWrongFalsely : Prop := x86SumsRow.holds Tryz.pinned (OpenSpec.ofChange x86SumsWrong)

/- THE SECOND FORM. 'bulk': how many values and letters a reading holds, each counted each time it is reached (what is shared counts as often as it is met; a slice's spare places count too). A statement '..UptoSaid' is the law's where the arguments, and the package variables that the reading takes, are together of bulk at most 1048576: NARROWER than '..Said'. Prove '..Said' where nothing that the law and all that it calls make is longer than what came in: it says more and counts as full. Else prove '..UptoSaid'. A law counts once. -/
mutual
def uptoBulk {H : Type} : DataW H → Nat
  | .lit (.string bytes) => bytes.length + 1
  | .lit _ => 1
  | .nil => 1
  | .ptr d => uptoBulk d + 1
  | .slice elems spare => uptoBulkAll elems + uptoBulkAll spare + 1
  | .agg parts => uptoBulkAll parts + 1
  | .iface _ d => uptoBulk d + 1
  | .map entries => uptoBulkEntries entries + 1
  | .held _ => 1
def uptoBulkAll {H : Type} : List (DataW H) → Nat
  | [] => 0
  | d :: r => uptoBulk d + uptoBulkAll r
def uptoBulkEntries {H : Type} : List (Lit × DataW H) → Nat
  | [] => 0
  | x :: r => uptoBulkEntry x + uptoBulkEntries r
def uptoBulkEntry {H : Type} : Lit × DataW H → Nat
  | (.string bytes, d) => bytes.length + uptoBulk d + 1
  | (_, d) => uptoBulk d + 1
 end
def uptoSmall : (H : Type) → List (DataW H) → Bool := fun _ ds => decide (uptoBulkAll ds ≤ 1048576)
def OpenSpec.upto (s : _root_.Go.ChangeSpec) : _root_.Go.OpenSpec := { _root_.Go.OpenSpec.ofChange s with cond := some uptoSmall }

/-- 'portcullislaw25.ArmSums', WHERE WHAT IT READS IS OF BULK AT MOST 1048576: true; the input reads as it did. -/
def armSumsUptoRow : OpenClaim := { program := "ytlgcebmdpclkgaagreat", sum := "61a067c70606a6aa31509db7dc98da768dc3a9bfdbb6a6e72542ce534388f587", func := "portcullis/portcullislaw25.ArmSums", spec := "armSums", unfollowed := true, recurses := true, apart := false, narrowed := true }
def ArmSumsUptoSaid : Prop := armSumsUptoRow.holds Tryz.pinned (OpenSpec.upto armSumsSpec)

/-- 'portcullislaw24.X86Sums', WHERE WHAT IT READS IS OF BULK AT MOST 1048576: true; the input reads as it did. -/
def x86SumsUptoRow : OpenClaim := { program := "ytlgcebmdpclkgaagreat", sum := "61a067c70606a6aa31509db7dc98da768dc3a9bfdbb6a6e72542ce534388f587", func := "portcullis/portcullislaw24.X86Sums", spec := "x86Sums", inPlace := ["math/bits.Add64"], unfollowed := true, recurses := true, named := ["math/bits.divideError", "math/bits.overflowError"], apart := false, narrowed := true }
def X86SumsUptoSaid : Prop := x86SumsUptoRow.holds Tryz.pinned (OpenSpec.upto x86SumsSpec)

end Rows
end Go.Proofs.YtlgcebmdpclkgaaGreat
