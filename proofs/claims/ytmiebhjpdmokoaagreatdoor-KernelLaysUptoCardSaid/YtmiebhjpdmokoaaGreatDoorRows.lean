/-
  NARROWER THAN 'FOR EVERY INPUT', by the rows' own cells (each row's printed sentence says how): KernelLays: laid · KernelNone: laid · KernelDraws: laid · TopCounts: laid.
  DERIVED. THE GIVEN ROWS OF THIS SEAT. 4 by the template 'for every input the law returns true; each argument reads behind the call as it read before'; 0 by the template 'total and deterministic' (their statements: YtmiebhjpdmokoaaGreatDoorTotals.lean).
  GIVEN WITH THE SEED: the statements are not yours to turn. If you find one false, say at which input.
  Laid BY PROGRAM, IN A SANDBOX (cutbox-rows.mjs): the forced cells as the released guide's own fill.sh prints them over the translation 2b0bd033f25e926f… (all of the seat's roots in one cut). By AI agents, Wed Nov 11 2026. No macro, syntax, notation, axiom, sorry.
-/
import Derived.Test.YtmiebhjpdmokoaaGreatDoorChecked
import GoSem.Claim
import GoSem.ClaimJoined
import GoSem.ClaimMapViews
import Derived.JoinedTies
import Derived.KernelRfl
namespace Go.Proofs.YtmiebhjpdmokoaaGreatDoor
/- THE CELL 'sum', in the pinned program and in every row, IS THE sha256 OF THE DUMP (.gsa) THAT YtmiebhjpdmokoaaGreatDoorProg.lean LOADS. Nothing in Lean hashes anything: it is a label: what it is worth is what the hold of that sum in a sandbox is worth. -/
noncomputable def Tryz.pinned : Pinned := { name := "ytmiebhjpdmokoaagreatdoor", sum := "2b0bd033f25e926ffe26528a7d9d2e6127440dad6d986acaa423a5b4be39b28f", checked := Tryz.checked }
namespace Rows
def none {H : Type} : Left H := { results := [], args := [] }

/- WHAT THE LISTED PACKAGE-LEVEL VARIABLES READ AS WHEN THE CALL BEGINS. Each datum BY PROGRAM (the guide's laid-datum.mjs) off the statement by which the dump's own 'gosem.cut.vars' lays the variable. In a bare row this is a premise. The card (YtmiebhjpdmokoaaGreatDoorCards.lean) ties it to the program's text. -/
def laid_portcullis_layout_errVoid {H : Type} : DataW H := .iface "*errors.errorString" (.ptr (.agg [.lit (.string [118, 111, 105, 100])]))
def laid_errors_errorType {H : Type} : DataW H := .iface "internal/reflectlite.rtype" (.agg [.ptr (.lit (.string [101, 114, 114, 111, 114]))])

/-- 'portcullislaw28.KernelLays': WHATEVER THE INPUT: true; the input reads as it did. -/
def kernelLaysSpec : ChangeSpec := { name := "kernelLays", fn := fun _ => fun
  | [d1, d2, d3] => { results := [.lit (.bool true)], args := [d1, d2, d3] }
  | _ => none }
def kernelLaysRow : OpenClaim := { program := "ytmiebhjpdmokoaagreatdoor", sum := "2b0bd033f25e926ffe26528a7d9d2e6127440dad6d986acaa423a5b4be39b28f", func := "portcullis/portcullislaw28.KernelLays", spec := "kernelLays", inPlace := ["internal/bytealg.IndexByteString", "internal/bytealg.IndexString", "internal/reflectlite.ValueOf", "(internal/reflectlite.Value).Type", "(internal/reflectlite.Value).IsNil", "internal/reflectlite.TypeOf", "(internal/reflectlite.Value).Elem", "(internal/reflectlite.Value).Set", "math/bits.Add64"], unfollowed := true, recurses := true, named := ["portcullis/layout.errVoid", "internal/bytealg.MaxLen", "errors.errorType", "math/bits.divideError", "math/bits.overflowError"], apart := false, laid := [("portcullis/layout.errVoid", laid_portcullis_layout_errVoid), ("errors.errorType", laid_errors_errorType)] }
def KernelLaysSaid : Prop := kernelLaysRow.holds Tryz.pinned (OpenSpec.ofChange kernelLaysSpec)

/-- ITS FALSE NEIGHBOUR: 'it returns false'. Refute it at one input. -/
def kernelLaysWrong : ChangeSpec := { name := "kernelLays", fn := fun _ => fun
  | [d1, d2, d3] => { results := [.lit (.bool false)], args := [d1, d2, d3] }
  | _ => none }
def KernelLaysWrongFalsely : Prop := kernelLaysRow.holds Tryz.pinned (OpenSpec.ofChange kernelLaysWrong)

/-- 'portcullislaw28.KernelNone': WHATEVER THE INPUT: true; the input reads as it did. -/
def kernelNoneSpec : ChangeSpec := { name := "kernelNone", fn := fun _ => fun
  | [d] => { results := [.lit (.bool true)], args := [d] }
  | _ => none }
def kernelNoneRow : OpenClaim := { program := "ytmiebhjpdmokoaagreatdoor", sum := "2b0bd033f25e926ffe26528a7d9d2e6127440dad6d986acaa423a5b4be39b28f", func := "portcullis/portcullislaw28.KernelNone", spec := "kernelNone", inPlace := ["internal/bytealg.IndexByteString", "internal/bytealg.IndexString", "internal/reflectlite.ValueOf", "(internal/reflectlite.Value).Type", "(internal/reflectlite.Value).IsNil", "internal/reflectlite.TypeOf", "(internal/reflectlite.Value).Elem", "(internal/reflectlite.Value).Set", "math/bits.Add64"], unfollowed := true, recurses := true, named := ["portcullis/layout.errVoid", "internal/bytealg.MaxLen", "errors.errorType", "math/bits.divideError", "math/bits.overflowError"], apart := false, laid := [("portcullis/layout.errVoid", laid_portcullis_layout_errVoid), ("errors.errorType", laid_errors_errorType)] }
def KernelNoneSaid : Prop := kernelNoneRow.holds Tryz.pinned (OpenSpec.ofChange kernelNoneSpec)

/-- ITS FALSE NEIGHBOUR: 'it returns false'. Refute it at one input. -/
def kernelNoneWrong : ChangeSpec := { name := "kernelNone", fn := fun _ => fun
  | [d] => { results := [.lit (.bool false)], args := [d] }
  | _ => none }
def KernelNoneWrongFalsely : Prop := kernelNoneRow.holds Tryz.pinned (OpenSpec.ofChange kernelNoneWrong)

/-- 'portcullislaw28.KernelDraws': WHATEVER THE INPUT: true; the input reads as it did. -/
def kernelDrawsSpec : ChangeSpec := { name := "kernelDraws", fn := fun _ => fun
  | [d1, d2] => { results := [.lit (.bool true)], args := [d1, d2] }
  | _ => none }
def kernelDrawsRow : OpenClaim := { program := "ytmiebhjpdmokoaagreatdoor", sum := "2b0bd033f25e926ffe26528a7d9d2e6127440dad6d986acaa423a5b4be39b28f", func := "portcullis/portcullislaw28.KernelDraws", spec := "kernelDraws", inPlace := ["internal/bytealg.IndexByteString", "internal/bytealg.IndexString", "internal/reflectlite.ValueOf", "(internal/reflectlite.Value).Type", "(internal/reflectlite.Value).IsNil", "internal/reflectlite.TypeOf", "(internal/reflectlite.Value).Elem", "(internal/reflectlite.Value).Set", "math/bits.Add64"], unfollowed := true, recurses := true, named := ["portcullis/layout.errVoid", "internal/bytealg.MaxLen", "errors.errorType", "math/bits.divideError", "math/bits.overflowError"], apart := false, laid := [("portcullis/layout.errVoid", laid_portcullis_layout_errVoid), ("errors.errorType", laid_errors_errorType)] }
def KernelDrawsSaid : Prop := kernelDrawsRow.holds Tryz.pinned (OpenSpec.ofChange kernelDrawsSpec)

/-- ITS FALSE NEIGHBOUR: 'it returns false'. Refute it at one input. -/
def kernelDrawsWrong : ChangeSpec := { name := "kernelDraws", fn := fun _ => fun
  | [d1, d2] => { results := [.lit (.bool false)], args := [d1, d2] }
  | _ => none }
def KernelDrawsWrongFalsely : Prop := kernelDrawsRow.holds Tryz.pinned (OpenSpec.ofChange kernelDrawsWrong)

/-- 'portcullistop.TopCounts': WHATEVER THE INPUT: true; the input reads as it did. -/
def topCountsSpec : ChangeSpec := { name := "topCounts", fn := fun _ => fun
  | [d1, d2] => { results := [.lit (.bool true)], args := [d1, d2] }
  | _ => none }
def topCountsRow : OpenClaim := { program := "ytmiebhjpdmokoaagreatdoor", sum := "2b0bd033f25e926ffe26528a7d9d2e6127440dad6d986acaa423a5b4be39b28f", func := "portcullis/portcullistop.TopCounts", spec := "topCounts", inPlace := ["internal/bytealg.IndexByteString", "internal/bytealg.IndexString", "internal/reflectlite.ValueOf", "(internal/reflectlite.Value).Type", "(internal/reflectlite.Value).IsNil", "internal/reflectlite.TypeOf", "(internal/reflectlite.Value).Elem", "(internal/reflectlite.Value).Set", "math/bits.Add64"], unfollowed := true, recurses := true, named := ["portcullis/layout.errVoid", "internal/bytealg.MaxLen", "errors.errorType", "math/bits.divideError", "math/bits.overflowError"], apart := false, laid := [("portcullis/layout.errVoid", laid_portcullis_layout_errVoid), ("errors.errorType", laid_errors_errorType)] }
def TopCountsSaid : Prop := topCountsRow.holds Tryz.pinned (OpenSpec.ofChange topCountsSpec)

/-- ITS FALSE NEIGHBOUR: 'it returns false'. Refute it at one input. -/
def topCountsWrong : ChangeSpec := { name := "topCounts", fn := fun _ => fun
  | [d1, d2] => { results := [.lit (.bool false)], args := [d1, d2] }
  | _ => none }
def TopCountsWrongFalsely : Prop := topCountsRow.holds Tryz.pinned (OpenSpec.ofChange topCountsWrong)

/- THE SECOND FORM. 'bulk': how many values and letters a reading holds, each counted each time it is reached (what is shared counts as often as it is met; a slice's spare places count too). A statement '..UptoSaid' is the law's where the arguments, and the package variables that the reading takes, are together of bulk at most 1048576: NARROWER than '..Said'. Prove '..Said' where nothing that the law and all that it calls make is longer than what came in: it says more and counts as full. Else prove '..UptoSaid'. A law counts once. -/
mutual
def uptoBulk {H : Type} : DataW H → Nat
  | .lit (.string bytes) => bytes.length + 1
  | .lit _ => 1
  | .nil => 1
  | .ptr d => uptoBulk d + 1
  | .slice elems spare => uptoBulkAll elems + uptoBulkAll spare + 1
  | .agg parts => uptoBulkAll parts + 1
  | .iface _ d => uptoBulk d + 1
  | .map entries => uptoBulkEntries entries + 1
  | .held _ => 1
def uptoBulkAll {H : Type} : List (DataW H) → Nat
  | [] => 0
  | d :: r => uptoBulk d + uptoBulkAll r
def uptoBulkEntries {H : Type} : List (Lit × DataW H) → Nat
  | [] => 0
  | x :: r => uptoBulkEntry x + uptoBulkEntries r
def uptoBulkEntry {H : Type} : Lit × DataW H → Nat
  | (.string bytes, d) => bytes.length + uptoBulk d + 1
  | (_, d) => uptoBulk d + 1
 end
def uptoSmall : (H : Type) → List (DataW H) → Bool := fun _ ds => decide (uptoBulkAll ds ≤ 1048576)
def OpenSpec.upto (s : _root_.Go.ChangeSpec) : _root_.Go.OpenSpec := { _root_.Go.OpenSpec.ofChange s with cond := some uptoSmall }

/-- 'portcullislaw28.KernelLays', WHERE WHAT IT READS IS OF BULK AT MOST 1048576: true; the input reads as it did. -/
def kernelLaysUptoRow : OpenClaim := { program := "ytmiebhjpdmokoaagreatdoor", sum := "2b0bd033f25e926ffe26528a7d9d2e6127440dad6d986acaa423a5b4be39b28f", func := "portcullis/portcullislaw28.KernelLays", spec := "kernelLays", inPlace := ["internal/bytealg.IndexByteString", "internal/bytealg.IndexString", "internal/reflectlite.ValueOf", "(internal/reflectlite.Value).Type", "(internal/reflectlite.Value).IsNil", "internal/reflectlite.TypeOf", "(internal/reflectlite.Value).Elem", "(internal/reflectlite.Value).Set", "math/bits.Add64"], unfollowed := true, recurses := true, named := ["portcullis/layout.errVoid", "internal/bytealg.MaxLen", "errors.errorType", "math/bits.divideError", "math/bits.overflowError"], apart := false, laid := [("portcullis/layout.errVoid", laid_portcullis_layout_errVoid), ("errors.errorType", laid_errors_errorType)], narrowed := true }
def KernelLaysUptoSaid : Prop := kernelLaysUptoRow.holds Tryz.pinned (OpenSpec.upto kernelLaysSpec)

/-- 'portcullislaw28.KernelNone', WHERE WHAT IT READS IS OF BULK AT MOST 1048576: true; the input reads as it did. -/
def kernelNoneUptoRow : OpenClaim := { program := "ytmiebhjpdmokoaagreatdoor", sum := "2b0bd033f25e926ffe26528a7d9d2e6127440dad6d986acaa423a5b4be39b28f", func := "portcullis/portcullislaw28.KernelNone", spec := "kernelNone", inPlace := ["internal/bytealg.IndexByteString", "internal/bytealg.IndexString", "internal/reflectlite.ValueOf", "(internal/reflectlite.Value).Type", "(internal/reflectlite.Value).IsNil", "internal/reflectlite.TypeOf", "(internal/reflectlite.Value).Elem", "(internal/reflectlite.Value).Set", "math/bits.Add64"], unfollowed := true, recurses := true, named := ["portcullis/layout.errVoid", "internal/bytealg.MaxLen", "errors.errorType", "math/bits.divideError", "math/bits.overflowError"], apart := false, laid := [("portcullis/layout.errVoid", laid_portcullis_layout_errVoid), ("errors.errorType", laid_errors_errorType)], narrowed := true }
def KernelNoneUptoSaid : Prop := kernelNoneUptoRow.holds Tryz.pinned (OpenSpec.upto kernelNoneSpec)

/-- 'portcullislaw28.KernelDraws', WHERE WHAT IT READS IS OF BULK AT MOST 1048576: true; the input reads as it did. -/
def kernelDrawsUptoRow : OpenClaim := { program := "ytmiebhjpdmokoaagreatdoor", sum := "2b0bd033f25e926ffe26528a7d9d2e6127440dad6d986acaa423a5b4be39b28f", func := "portcullis/portcullislaw28.KernelDraws", spec := "kernelDraws", inPlace := ["internal/bytealg.IndexByteString", "internal/bytealg.IndexString", "internal/reflectlite.ValueOf", "(internal/reflectlite.Value).Type", "(internal/reflectlite.Value).IsNil", "internal/reflectlite.TypeOf", "(internal/reflectlite.Value).Elem", "(internal/reflectlite.Value).Set", "math/bits.Add64"], unfollowed := true, recurses := true, named := ["portcullis/layout.errVoid", "internal/bytealg.MaxLen", "errors.errorType", "math/bits.divideError", "math/bits.overflowError"], apart := false, laid := [("portcullis/layout.errVoid", laid_portcullis_layout_errVoid), ("errors.errorType", laid_errors_errorType)], narrowed := true }
def KernelDrawsUptoSaid : Prop := kernelDrawsUptoRow.holds Tryz.pinned (OpenSpec.upto kernelDrawsSpec)

/-- 'portcullistop.TopCounts', WHERE WHAT IT READS IS OF BULK AT MOST 1048576: true; the input reads as it did. -/
def topCountsUptoRow : OpenClaim := { program := "ytmiebhjpdmokoaagreatdoor", sum := "2b0bd033f25e926ffe26528a7d9d2e6127440dad6d986acaa423a5b4be39b28f", func := "portcullis/portcullistop.TopCounts", spec := "topCounts", inPlace := ["internal/bytealg.IndexByteString", "internal/bytealg.IndexString", "internal/reflectlite.ValueOf", "(internal/reflectlite.Value).Type", "(internal/reflectlite.Value).IsNil", "internal/reflectlite.TypeOf", "(internal/reflectlite.Value).Elem", "(internal/reflectlite.Value).Set", "math/bits.Add64"], unfollowed := true, recurses := true, named := ["portcullis/layout.errVoid", "internal/bytealg.MaxLen", "errors.errorType", "math/bits.divideError", "math/bits.overflowError"], apart := false, laid := [("portcullis/layout.errVoid", laid_portcullis_layout_errVoid), ("errors.errorType", laid_errors_errorType)], narrowed := true }
def TopCountsUptoSaid : Prop := topCountsUptoRow.holds Tryz.pinned (OpenSpec.upto topCountsSpec)

end Rows
end Go.Proofs.YtmiebhjpdmokoaaGreatDoor
