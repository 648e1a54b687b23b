/-
  No cell of these rows narrows 'for every input' (looked for: loops, veiled, ifaces, maps, wideKeys, modest, calm, conditions, laid).
  DERIVED. THE GIVEN ROWS OF THIS SEAT. 12 by the template 'for every input the law returns true; each argument reads behind the call as it read before'; 0 by the template 'total and deterministic' (their statements: YtneiadniopmcnaaTotals.lean).
  GIVEN WITH THE SEED: the statements are not yours to turn. If you find one false, say at which input.
  Laid BY PROGRAM, IN A SANDBOX (cutbox-rows.mjs): the forced cells as the released guide's own fill.sh prints them over the translation d8af4649c298c5b2… (all of the seat's roots in one cut). By AI agents, Wed Nov 11 2026. No macro, syntax, notation, axiom, sorry.
-/
import Derived.Test.YtneiadniopmcnaaChecked
import GoSem.Claim
import GoSem.ClaimJoined
import GoSem.ClaimMapViews
import Derived.JoinedTies
import Derived.KernelRfl
namespace Go.Proofs.Ytneiadniopmcnaa
/- THE CELL 'sum', in the pinned program and in every row, IS THE sha256 OF THE DUMP (.gsa) THAT YtneiadniopmcnaaProg.lean LOADS. Nothing in Lean hashes anything: it is a label: what it is worth is what the hold of that sum in a sandbox is worth. -/
noncomputable def Try.pinned : Pinned := { name := "ytneiadniopmcnaa", sum := "d8af4649c298c5b2be4432bee357a2511b115947a01655f09ab8480421cc5957", checked := Try.checked }
namespace Rows
def none {H : Type} : Left H := { results := [], args := [] }

/-- 'laws.FnExactNegRatio': WHATEVER THE INPUT: true; the input reads as it did. -/
def fnExactNegRatioSpec : ChangeSpec := { name := "fnExactNegRatio", fn := fun _ => fun
  | [d] => { results := [.lit (.bool true)], args := [d] }
  | _ => none }
def fnExactNegRatioRow : OpenClaim := { program := "ytneiadniopmcnaa", sum := "d8af4649c298c5b2be4432bee357a2511b115947a01655f09ab8480421cc5957", func := "loop.example/g00958/laws.FnExactNegRatio", spec := "fnExactNegRatio", apart := false }
def FnExactNegRatioSaid : Prop := fnExactNegRatioRow.holds Try.pinned (OpenSpec.ofChange fnExactNegRatioSpec)

/-- ITS FALSE NEIGHBOUR: 'it returns false'. Refute it at one input. -/
def fnExactNegRatioWrong : ChangeSpec := { name := "fnExactNegRatio", fn := fun _ => fun
  | [d] => { results := [.lit (.bool false)], args := [d] }
  | _ => none }
def FnExactNegRatioWrongFalsely : Prop := fnExactNegRatioRow.holds Try.pinned (OpenSpec.ofChange fnExactNegRatioWrong)

/-- 'laws.FnExactCompareRatios': WHATEVER THE INPUT: true; the input reads as it did. -/
def fnExactCompareRatiosSpec : ChangeSpec := { name := "fnExactCompareRatios", fn := fun _ => fun
  | [d1, d2] => { results := [.lit (.bool true)], args := [d1, d2] }
  | _ => none }
def fnExactCompareRatiosRow : OpenClaim := { program := "ytneiadniopmcnaa", sum := "d8af4649c298c5b2be4432bee357a2511b115947a01655f09ab8480421cc5957", func := "loop.example/g00958/laws.FnExactCompareRatios", spec := "fnExactCompareRatios", apart := false }
def FnExactCompareRatiosSaid : Prop := fnExactCompareRatiosRow.holds Try.pinned (OpenSpec.ofChange fnExactCompareRatiosSpec)

/-- ITS FALSE NEIGHBOUR: 'it returns false'. Refute it at one input. -/
def fnExactCompareRatiosWrong : ChangeSpec := { name := "fnExactCompareRatios", fn := fun _ => fun
  | [d1, d2] => { results := [.lit (.bool false)], args := [d1, d2] }
  | _ => none }
def FnExactCompareRatiosWrongFalsely : Prop := fnExactCompareRatiosRow.holds Try.pinned (OpenSpec.ofChange fnExactCompareRatiosWrong)

/-- 'laws.FnExactMakeRatio': WHATEVER THE INPUT: true; the input reads as it did. -/
def fnExactMakeRatioSpec : ChangeSpec := { name := "fnExactMakeRatio", fn := fun _ => fun
  | [d1, d2] => { results := [.lit (.bool true)], args := [d1, d2] }
  | _ => none }
def fnExactMakeRatioRow : OpenClaim := { program := "ytneiadniopmcnaa", sum := "d8af4649c298c5b2be4432bee357a2511b115947a01655f09ab8480421cc5957", func := "loop.example/g00958/laws.FnExactMakeRatio", spec := "fnExactMakeRatio", apart := false }
def FnExactMakeRatioSaid : Prop := fnExactMakeRatioRow.holds Try.pinned (OpenSpec.ofChange fnExactMakeRatioSpec)

/-- ITS FALSE NEIGHBOUR: 'it returns false'. Refute it at one input. -/
def fnExactMakeRatioWrong : ChangeSpec := { name := "fnExactMakeRatio", fn := fun _ => fun
  | [d1, d2] => { results := [.lit (.bool false)], args := [d1, d2] }
  | _ => none }
def FnExactMakeRatioWrongFalsely : Prop := fnExactMakeRatioRow.holds Try.pinned (OpenSpec.ofChange fnExactMakeRatioWrong)

/-- 'laws.FnExactAddRatios': WHATEVER THE INPUT: true; the input reads as it did. -/
def fnExactAddRatiosSpec : ChangeSpec := { name := "fnExactAddRatios", fn := fun _ => fun
  | [d1, d2] => { results := [.lit (.bool true)], args := [d1, d2] }
  | _ => none }
def fnExactAddRatiosRow : OpenClaim := { program := "ytneiadniopmcnaa", sum := "d8af4649c298c5b2be4432bee357a2511b115947a01655f09ab8480421cc5957", func := "loop.example/g00958/laws.FnExactAddRatios", spec := "fnExactAddRatios", apart := false }
def FnExactAddRatiosSaid : Prop := fnExactAddRatiosRow.holds Try.pinned (OpenSpec.ofChange fnExactAddRatiosSpec)

/-- ITS FALSE NEIGHBOUR: 'it returns false'. Refute it at one input. -/
def fnExactAddRatiosWrong : ChangeSpec := { name := "fnExactAddRatios", fn := fun _ => fun
  | [d1, d2] => { results := [.lit (.bool false)], args := [d1, d2] }
  | _ => none }
def FnExactAddRatiosWrongFalsely : Prop := fnExactAddRatiosRow.holds Try.pinned (OpenSpec.ofChange fnExactAddRatiosWrong)

/-- 'laws.FnExactTimesRatios': WHATEVER THE INPUT: true; the input reads as it did. -/
def fnExactTimesRatiosSpec : ChangeSpec := { name := "fnExactTimesRatios", fn := fun _ => fun
  | [d1, d2] => { results := [.lit (.bool true)], args := [d1, d2] }
  | _ => none }
def fnExactTimesRatiosRow : OpenClaim := { program := "ytneiadniopmcnaa", sum := "d8af4649c298c5b2be4432bee357a2511b115947a01655f09ab8480421cc5957", func := "loop.example/g00958/laws.FnExactTimesRatios", spec := "fnExactTimesRatios", apart := false }
def FnExactTimesRatiosSaid : Prop := fnExactTimesRatiosRow.holds Try.pinned (OpenSpec.ofChange fnExactTimesRatiosSpec)

/-- ITS FALSE NEIGHBOUR: 'it returns false'. Refute it at one input. -/
def fnExactTimesRatiosWrong : ChangeSpec := { name := "fnExactTimesRatios", fn := fun _ => fun
  | [d1, d2] => { results := [.lit (.bool false)], args := [d1, d2] }
  | _ => none }
def FnExactTimesRatiosWrongFalsely : Prop := fnExactTimesRatiosRow.holds Try.pinned (OpenSpec.ofChange fnExactTimesRatiosWrong)

/-- 'laws.FnExactIsMatrix': WHATEVER THE INPUT: true; the input reads as it did. -/
def fnExactIsMatrixSpec : ChangeSpec := { name := "fnExactIsMatrix", fn := fun _ => fun
  | [d1, d2] => { results := [.lit (.bool true)], args := [d1, d2] }
  | _ => none }
def fnExactIsMatrixRow : OpenClaim := { program := "ytneiadniopmcnaa", sum := "d8af4649c298c5b2be4432bee357a2511b115947a01655f09ab8480421cc5957", func := "loop.example/g00958/laws.FnExactIsMatrix", spec := "fnExactIsMatrix", apart := false }
def FnExactIsMatrixSaid : Prop := fnExactIsMatrixRow.holds Try.pinned (OpenSpec.ofChange fnExactIsMatrixSpec)

/-- ITS FALSE NEIGHBOUR: 'it returns false'. Refute it at one input. -/
def fnExactIsMatrixWrong : ChangeSpec := { name := "fnExactIsMatrix", fn := fun _ => fun
  | [d1, d2] => { results := [.lit (.bool false)], args := [d1, d2] }
  | _ => none }
def FnExactIsMatrixWrongFalsely : Prop := fnExactIsMatrixRow.holds Try.pinned (OpenSpec.ofChange fnExactIsMatrixWrong)

/-- 'laws.FnExactIsSystem': WHATEVER THE INPUT: true; the input reads as it did. -/
def fnExactIsSystemSpec : ChangeSpec := { name := "fnExactIsSystem", fn := fun _ => fun
  | [d1, d2, d3] => { results := [.lit (.bool true)], args := [d1, d2, d3] }
  | _ => none }
def fnExactIsSystemRow : OpenClaim := { program := "ytneiadniopmcnaa", sum := "d8af4649c298c5b2be4432bee357a2511b115947a01655f09ab8480421cc5957", func := "loop.example/g00958/laws.FnExactIsSystem", spec := "fnExactIsSystem", apart := false }
def FnExactIsSystemSaid : Prop := fnExactIsSystemRow.holds Try.pinned (OpenSpec.ofChange fnExactIsSystemSpec)

/-- ITS FALSE NEIGHBOUR: 'it returns false'. Refute it at one input. -/
def fnExactIsSystemWrong : ChangeSpec := { name := "fnExactIsSystem", fn := fun _ => fun
  | [d1, d2, d3] => { results := [.lit (.bool false)], args := [d1, d2, d3] }
  | _ => none }
def FnExactIsSystemWrongFalsely : Prop := fnExactIsSystemRow.holds Try.pinned (OpenSpec.ofChange fnExactIsSystemWrong)

/-- 'laws.FnCipher': WHATEVER THE INPUT: true; the input reads as it did. -/
def fnCipherSpec : ChangeSpec := { name := "fnCipher", fn := fun _ => fun
  | [d] => { results := [.lit (.bool true)], args := [d] }
  | _ => none }
def fnCipherRow : OpenClaim := { program := "ytneiadniopmcnaa", sum := "d8af4649c298c5b2be4432bee357a2511b115947a01655f09ab8480421cc5957", func := "loop.example/g00958/laws.FnCipher", spec := "fnCipher", apart := false }
def FnCipherSaid : Prop := fnCipherRow.holds Try.pinned (OpenSpec.ofChange fnCipherSpec)

/-- ITS FALSE NEIGHBOUR: 'it returns false'. Refute it at one input. -/
def fnCipherWrong : ChangeSpec := { name := "fnCipher", fn := fun _ => fun
  | [d] => { results := [.lit (.bool false)], args := [d] }
  | _ => none }
def FnCipherWrongFalsely : Prop := fnCipherRow.holds Try.pinned (OpenSpec.ofChange fnCipherWrong)

/-- 'laws.FnKeyedHash': WHATEVER THE INPUT: true; the input reads as it did. -/
def fnKeyedHashSpec : ChangeSpec := { name := "fnKeyedHash", fn := fun _ => fun
  | [d] => { results := [.lit (.bool true)], args := [d] }
  | _ => none }
def fnKeyedHashRow : OpenClaim := { program := "ytneiadniopmcnaa", sum := "d8af4649c298c5b2be4432bee357a2511b115947a01655f09ab8480421cc5957", func := "loop.example/g00958/laws.FnKeyedHash", spec := "fnKeyedHash", apart := false }
def FnKeyedHashSaid : Prop := fnKeyedHashRow.holds Try.pinned (OpenSpec.ofChange fnKeyedHashSpec)

/-- ITS FALSE NEIGHBOUR: 'it returns false'. Refute it at one input. -/
def fnKeyedHashWrong : ChangeSpec := { name := "fnKeyedHash", fn := fun _ => fun
  | [d] => { results := [.lit (.bool false)], args := [d] }
  | _ => none }
def FnKeyedHashWrongFalsely : Prop := fnKeyedHashRow.holds Try.pinned (OpenSpec.ofChange fnKeyedHashWrong)

/-- 'laws.FnByteStrings': WHATEVER THE INPUT: true; the input reads as it did. -/
def fnByteStringsSpec : ChangeSpec := { name := "fnByteStrings", fn := fun _ => fun
  | [d] => { results := [.lit (.bool true)], args := [d] }
  | _ => none }
def fnByteStringsRow : OpenClaim := { program := "ytneiadniopmcnaa", sum := "d8af4649c298c5b2be4432bee357a2511b115947a01655f09ab8480421cc5957", func := "loop.example/g00958/laws.FnByteStrings", spec := "fnByteStrings", apart := false }
def FnByteStringsSaid : Prop := fnByteStringsRow.holds Try.pinned (OpenSpec.ofChange fnByteStringsSpec)

/-- ITS FALSE NEIGHBOUR: 'it returns false'. Refute it at one input. -/
def fnByteStringsWrong : ChangeSpec := { name := "fnByteStrings", fn := fun _ => fun
  | [d] => { results := [.lit (.bool false)], args := [d] }
  | _ => none }
def FnByteStringsWrongFalsely : Prop := fnByteStringsRow.holds Try.pinned (OpenSpec.ofChange fnByteStringsWrong)

/-- 'laws.FnVarints': WHATEVER THE INPUT: true; the input reads as it did. -/
def fnVarintsSpec : ChangeSpec := { name := "fnVarints", fn := fun _ => fun
  | [d] => { results := [.lit (.bool true)], args := [d] }
  | _ => none }
def fnVarintsRow : OpenClaim := { program := "ytneiadniopmcnaa", sum := "d8af4649c298c5b2be4432bee357a2511b115947a01655f09ab8480421cc5957", func := "loop.example/g00958/laws.FnVarints", spec := "fnVarints", apart := false }
def FnVarintsSaid : Prop := fnVarintsRow.holds Try.pinned (OpenSpec.ofChange fnVarintsSpec)

/-- ITS FALSE NEIGHBOUR: 'it returns false'. Refute it at one input. -/
def fnVarintsWrong : ChangeSpec := { name := "fnVarints", fn := fun _ => fun
  | [d] => { results := [.lit (.bool false)], args := [d] }
  | _ => none }
def FnVarintsWrongFalsely : Prop := fnVarintsRow.holds Try.pinned (OpenSpec.ofChange fnVarintsWrong)

/-- 'laws.FnRatios': WHATEVER THE INPUT: true; the input reads as it did. -/
def fnRatiosSpec : ChangeSpec := { name := "fnRatios", fn := fun _ => fun
  | [d] => { results := [.lit (.bool true)], args := [d] }
  | _ => none }
def fnRatiosRow : OpenClaim := { program := "ytneiadniopmcnaa", sum := "d8af4649c298c5b2be4432bee357a2511b115947a01655f09ab8480421cc5957", func := "loop.example/g00958/laws.FnRatios", spec := "fnRatios", apart := false }
def FnRatiosSaid : Prop := fnRatiosRow.holds Try.pinned (OpenSpec.ofChange fnRatiosSpec)

/-- ITS FALSE NEIGHBOUR: 'it returns false'. Refute it at one input. -/
def fnRatiosWrong : ChangeSpec := { name := "fnRatios", fn := fun _ => fun
  | [d] => { results := [.lit (.bool false)], args := [d] }
  | _ => none }
def FnRatiosWrongFalsely : Prop := fnRatiosRow.holds Try.pinned (OpenSpec.ofChange fnRatiosWrong)

/- THE SECOND FORM. 'bulk': how many values and letters a reading holds, each counted each time it is reached (what is shared counts as often as it is met; a slice's spare places count too). A statement '..UptoSaid' is the law's where the arguments, and the package variables that the reading takes, are together of bulk at most 1048576: NARROWER than '..Said'. Prove '..Said' where nothing that the law and all that it calls make is longer than what came in: it says more and counts as full. Else prove '..UptoSaid'. A law counts once. -/
mutual
def uptoBulk {H : Type} : DataW H → Nat
  | .lit (.string bytes) => bytes.length + 1
  | .lit _ => 1
  | .nil => 1
  | .ptr d => uptoBulk d + 1
  | .slice elems spare => uptoBulkAll elems + uptoBulkAll spare + 1
  | .agg parts => uptoBulkAll parts + 1
  | .iface _ d => uptoBulk d + 1
  | .map entries => uptoBulkEntries entries + 1
  | .held _ => 1
def uptoBulkAll {H : Type} : List (DataW H) → Nat
  | [] => 0
  | d :: r => uptoBulk d + uptoBulkAll r
def uptoBulkEntries {H : Type} : List (Lit × DataW H) → Nat
  | [] => 0
  | x :: r => uptoBulkEntry x + uptoBulkEntries r
def uptoBulkEntry {H : Type} : Lit × DataW H → Nat
  | (.string bytes, d) => bytes.length + uptoBulk d + 1
  | (_, d) => uptoBulk d + 1
 end
def uptoSmall : (H : Type) → List (DataW H) → Bool := fun _ ds => decide (uptoBulkAll ds ≤ 1048576)
def OpenSpec.upto (s : _root_.Go.ChangeSpec) : _root_.Go.OpenSpec := { _root_.Go.OpenSpec.ofChange s with cond := some uptoSmall }

/-- 'laws.FnExactNegRatio', WHERE WHAT IT READS IS OF BULK AT MOST 1048576: true; the input reads as it did. -/
def fnExactNegRatioUptoRow : OpenClaim := { program := "ytneiadniopmcnaa", sum := "d8af4649c298c5b2be4432bee357a2511b115947a01655f09ab8480421cc5957", func := "loop.example/g00958/laws.FnExactNegRatio", spec := "fnExactNegRatio", apart := false, narrowed := true }
def FnExactNegRatioUptoSaid : Prop := fnExactNegRatioUptoRow.holds Try.pinned (OpenSpec.upto fnExactNegRatioSpec)

/-- 'laws.FnExactCompareRatios', WHERE WHAT IT READS IS OF BULK AT MOST 1048576: true; the input reads as it did. -/
def fnExactCompareRatiosUptoRow : OpenClaim := { program := "ytneiadniopmcnaa", sum := "d8af4649c298c5b2be4432bee357a2511b115947a01655f09ab8480421cc5957", func := "loop.example/g00958/laws.FnExactCompareRatios", spec := "fnExactCompareRatios", apart := false, narrowed := true }
def FnExactCompareRatiosUptoSaid : Prop := fnExactCompareRatiosUptoRow.holds Try.pinned (OpenSpec.upto fnExactCompareRatiosSpec)

/-- 'laws.FnExactMakeRatio', WHERE WHAT IT READS IS OF BULK AT MOST 1048576: true; the input reads as it did. -/
def fnExactMakeRatioUptoRow : OpenClaim := { program := "ytneiadniopmcnaa", sum := "d8af4649c298c5b2be4432bee357a2511b115947a01655f09ab8480421cc5957", func := "loop.example/g00958/laws.FnExactMakeRatio", spec := "fnExactMakeRatio", apart := false, narrowed := true }
def FnExactMakeRatioUptoSaid : Prop := fnExactMakeRatioUptoRow.holds Try.pinned (OpenSpec.upto fnExactMakeRatioSpec)

/-- 'laws.FnExactAddRatios', WHERE WHAT IT READS IS OF BULK AT MOST 1048576: true; the input reads as it did. -/
def fnExactAddRatiosUptoRow : OpenClaim := { program := "ytneiadniopmcnaa", sum := "d8af4649c298c5b2be4432bee357a2511b115947a01655f09ab8480421cc5957", func := "loop.example/g00958/laws.FnExactAddRatios", spec := "fnExactAddRatios", apart := false, narrowed := true }
def FnExactAddRatiosUptoSaid : Prop := fnExactAddRatiosUptoRow.holds Try.pinned (OpenSpec.upto fnExactAddRatiosSpec)

/-- 'laws.FnExactTimesRatios', WHERE WHAT IT READS IS OF BULK AT MOST 1048576: true; the input reads as it did. -/
def fnExactTimesRatiosUptoRow : OpenClaim := { program := "ytneiadniopmcnaa", sum := "d8af4649c298c5b2be4432bee357a2511b115947a01655f09ab8480421cc5957", func := "loop.example/g00958/laws.FnExactTimesRatios", spec := "fnExactTimesRatios", apart := false, narrowed := true }
def FnExactTimesRatiosUptoSaid : Prop := fnExactTimesRatiosUptoRow.holds Try.pinned (OpenSpec.upto fnExactTimesRatiosSpec)

/-- 'laws.FnExactIsMatrix', WHERE WHAT IT READS IS OF BULK AT MOST 1048576: true; the input reads as it did. -/
def fnExactIsMatrixUptoRow : OpenClaim := { program := "ytneiadniopmcnaa", sum := "d8af4649c298c5b2be4432bee357a2511b115947a01655f09ab8480421cc5957", func := "loop.example/g00958/laws.FnExactIsMatrix", spec := "fnExactIsMatrix", apart := false, narrowed := true }
def FnExactIsMatrixUptoSaid : Prop := fnExactIsMatrixUptoRow.holds Try.pinned (OpenSpec.upto fnExactIsMatrixSpec)

/-- 'laws.FnExactIsSystem', WHERE WHAT IT READS IS OF BULK AT MOST 1048576: true; the input reads as it did. -/
def fnExactIsSystemUptoRow : OpenClaim := { program := "ytneiadniopmcnaa", sum := "d8af4649c298c5b2be4432bee357a2511b115947a01655f09ab8480421cc5957", func := "loop.example/g00958/laws.FnExactIsSystem", spec := "fnExactIsSystem", apart := false, narrowed := true }
def FnExactIsSystemUptoSaid : Prop := fnExactIsSystemUptoRow.holds Try.pinned (OpenSpec.upto fnExactIsSystemSpec)

/-- 'laws.FnCipher', WHERE WHAT IT READS IS OF BULK AT MOST 1048576: true; the input reads as it did. -/
def fnCipherUptoRow : OpenClaim := { program := "ytneiadniopmcnaa", sum := "d8af4649c298c5b2be4432bee357a2511b115947a01655f09ab8480421cc5957", func := "loop.example/g00958/laws.FnCipher", spec := "fnCipher", apart := false, narrowed := true }
def FnCipherUptoSaid : Prop := fnCipherUptoRow.holds Try.pinned (OpenSpec.upto fnCipherSpec)

/-- 'laws.FnKeyedHash', WHERE WHAT IT READS IS OF BULK AT MOST 1048576: true; the input reads as it did. -/
def fnKeyedHashUptoRow : OpenClaim := { program := "ytneiadniopmcnaa", sum := "d8af4649c298c5b2be4432bee357a2511b115947a01655f09ab8480421cc5957", func := "loop.example/g00958/laws.FnKeyedHash", spec := "fnKeyedHash", apart := false, narrowed := true }
def FnKeyedHashUptoSaid : Prop := fnKeyedHashUptoRow.holds Try.pinned (OpenSpec.upto fnKeyedHashSpec)

/-- 'laws.FnByteStrings', WHERE WHAT IT READS IS OF BULK AT MOST 1048576: true; the input reads as it did. -/
def fnByteStringsUptoRow : OpenClaim := { program := "ytneiadniopmcnaa", sum := "d8af4649c298c5b2be4432bee357a2511b115947a01655f09ab8480421cc5957", func := "loop.example/g00958/laws.FnByteStrings", spec := "fnByteStrings", apart := false, narrowed := true }
def FnByteStringsUptoSaid : Prop := fnByteStringsUptoRow.holds Try.pinned (OpenSpec.upto fnByteStringsSpec)

/-- 'laws.FnVarints', WHERE WHAT IT READS IS OF BULK AT MOST 1048576: true; the input reads as it did. -/
def fnVarintsUptoRow : OpenClaim := { program := "ytneiadniopmcnaa", sum := "d8af4649c298c5b2be4432bee357a2511b115947a01655f09ab8480421cc5957", func := "loop.example/g00958/laws.FnVarints", spec := "fnVarints", apart := false, narrowed := true }
def FnVarintsUptoSaid : Prop := fnVarintsUptoRow.holds Try.pinned (OpenSpec.upto fnVarintsSpec)

/-- 'laws.FnRatios', WHERE WHAT IT READS IS OF BULK AT MOST 1048576: true; the input reads as it did. -/
def fnRatiosUptoRow : OpenClaim := { program := "ytneiadniopmcnaa", sum := "d8af4649c298c5b2be4432bee357a2511b115947a01655f09ab8480421cc5957", func := "loop.example/g00958/laws.FnRatios", spec := "fnRatios", apart := false, narrowed := true }
def FnRatiosUptoSaid : Prop := fnRatiosUptoRow.holds Try.pinned (OpenSpec.upto fnRatiosSpec)

end Rows
end Go.Proofs.Ytneiadniopmcnaa
