/-
  No cell of these rows narrows 'for every input' (looked for: loops, veiled, ifaces, maps, wideKeys, modest, calm, conditions, laid).
  DERIVED. THE GIVEN ROWS OF THIS SEAT. 12 by the template 'for every input the law returns true; each argument reads behind the call as it read before'; 0 by the template 'total and deterministic' (their statements: YtgchhheajngbfaaTotals.lean).
  GIVEN WITH THE SEED: the statements are not yours to turn. If you find one false, say at which input.
  Laid BY PROGRAM, IN A SANDBOX (cutbox-rows.mjs): the forced cells as the released guide's own fill.sh prints them over the translation 8688fa93ad8cda10… (all of the seat's roots in one cut). By AI agents, Wed Nov 11 2026. No macro, syntax, notation, axiom, sorry.
-/
import Derived.Test.YtgchhheajngbfaaChecked
import GoSem.Claim
import GoSem.ClaimJoined
import GoSem.ClaimMapViews
import Derived.JoinedTies
import Derived.KernelRfl
namespace Go.Proofs.Ytgchhheajngbfaa
/- THE CELL 'sum', in the pinned program and in every row, IS THE sha256 OF THE DUMP (.gsa) THAT YtgchhheajngbfaaProg.lean LOADS. Nothing in Lean hashes anything: it is a label: what it is worth is what the hold of that sum in a sandbox is worth. -/
noncomputable def Try.pinned : Pinned := { name := "ytgchhheajngbfaa", sum := "8688fa93ad8cda1055b42df9d9348c79860fe57c843b5fe7a1f9c1c28e39438b", checked := Try.checked }
namespace Rows
def none {H : Type} : Left H := { results := [], args := [] }

/-- 'neonwrightlaw03.CodeCascades': WHATEVER THE INPUT: true; the input reads as it did. -/
def codeCascadesSpec : ChangeSpec := { name := "codeCascades", fn := fun _ => fun
  | [d1, d2] => { results := [.lit (.bool true)], args := [d1, d2] }
  | _ => none }
def codeCascadesRow : OpenClaim := { program := "ytgchhheajngbfaa", sum := "8688fa93ad8cda1055b42df9d9348c79860fe57c843b5fe7a1f9c1c28e39438b", func := "neonwright/neonwrightlaw03.CodeCascades", spec := "codeCascades", recurses := true, apart := false }
def CodeCascadesSaid : Prop := codeCascadesRow.holds Try.pinned (OpenSpec.ofChange codeCascadesSpec)

/-- ITS FALSE NEIGHBOUR: 'it returns false'. Refute it at one input. -/
def codeCascadesWrong : ChangeSpec := { name := "codeCascades", fn := fun _ => fun
  | [d1, d2] => { results := [.lit (.bool false)], args := [d1, d2] }
  | _ => none }
def CodeCascadesWrongFalsely : Prop := codeCascadesRow.holds Try.pinned (OpenSpec.ofChange codeCascadesWrong)

/-- 'neonwrightlaw03.CodeBerger': WHATEVER THE INPUT: true; the input reads as it did. -/
def codeBergerSpec : ChangeSpec := { name := "codeBerger", fn := fun _ => fun
  | [d1, d2, d3] => { results := [.lit (.bool true)], args := [d1, d2, d3] }
  | _ => none }
def codeBergerRow : OpenClaim := { program := "ytgchhheajngbfaa", sum := "8688fa93ad8cda1055b42df9d9348c79860fe57c843b5fe7a1f9c1c28e39438b", func := "neonwright/neonwrightlaw03.CodeBerger", spec := "codeBerger", recurses := true, apart := false }
def CodeBergerSaid : Prop := codeBergerRow.holds Try.pinned (OpenSpec.ofChange codeBergerSpec)

/-- ITS FALSE NEIGHBOUR: 'it returns false'. Refute it at one input. -/
def codeBergerWrong : ChangeSpec := { name := "codeBerger", fn := fun _ => fun
  | [d1, d2, d3] => { results := [.lit (.bool false)], args := [d1, d2, d3] }
  | _ => none }
def CodeBergerWrongFalsely : Prop := codeBergerRow.holds Try.pinned (OpenSpec.ofChange codeBergerWrong)

/-- 'neonwrightlaw03.CodeDark': WHATEVER THE INPUT: true; the input reads as it did. -/
def codeDarkSpec : ChangeSpec := { name := "codeDark", fn := fun _ => fun
  | [d1, d2, d3, d4] => { results := [.lit (.bool true)], args := [d1, d2, d3, d4] }
  | _ => none }
def codeDarkRow : OpenClaim := { program := "ytgchhheajngbfaa", sum := "8688fa93ad8cda1055b42df9d9348c79860fe57c843b5fe7a1f9c1c28e39438b", func := "neonwright/neonwrightlaw03.CodeDark", spec := "codeDark", recurses := true, apart := false }
def CodeDarkSaid : Prop := codeDarkRow.holds Try.pinned (OpenSpec.ofChange codeDarkSpec)

/-- ITS FALSE NEIGHBOUR: 'it returns false'. Refute it at one input. -/
def codeDarkWrong : ChangeSpec := { name := "codeDark", fn := fun _ => fun
  | [d1, d2, d3, d4] => { results := [.lit (.bool false)], args := [d1, d2, d3, d4] }
  | _ => none }
def CodeDarkWrongFalsely : Prop := codeDarkRow.holds Try.pinned (OpenSpec.ofChange codeDarkWrong)

/-- 'neonwrightlaw03.CodeUnordered': WHATEVER THE INPUT: true; the input reads as it did. -/
def codeUnorderedSpec : ChangeSpec := { name := "codeUnordered", fn := fun _ => fun
  | [d1, d2] => { results := [.lit (.bool true)], args := [d1, d2] }
  | _ => none }
def codeUnorderedRow : OpenClaim := { program := "ytgchhheajngbfaa", sum := "8688fa93ad8cda1055b42df9d9348c79860fe57c843b5fe7a1f9c1c28e39438b", func := "neonwright/neonwrightlaw03.CodeUnordered", spec := "codeUnordered", recurses := true, apart := false }
def CodeUnorderedSaid : Prop := codeUnorderedRow.holds Try.pinned (OpenSpec.ofChange codeUnorderedSpec)

/-- ITS FALSE NEIGHBOUR: 'it returns false'. Refute it at one input. -/
def codeUnorderedWrong : ChangeSpec := { name := "codeUnordered", fn := fun _ => fun
  | [d1, d2] => { results := [.lit (.bool false)], args := [d1, d2] }
  | _ => none }
def CodeUnorderedWrongFalsely : Prop := codeUnorderedRow.holds Try.pinned (OpenSpec.ofChange codeUnorderedWrong)

/-- 'neonwrightlaw03.CodeChains': WHATEVER THE INPUT: true; the input reads as it did. -/
def codeChainsSpec : ChangeSpec := { name := "codeChains", fn := fun _ => fun
  | [d1, d2] => { results := [.lit (.bool true)], args := [d1, d2] }
  | _ => none }
def codeChainsRow : OpenClaim := { program := "ytgchhheajngbfaa", sum := "8688fa93ad8cda1055b42df9d9348c79860fe57c843b5fe7a1f9c1c28e39438b", func := "neonwright/neonwrightlaw03.CodeChains", spec := "codeChains", unfollowed := true, recurses := true, apart := false }
def CodeChainsSaid : Prop := codeChainsRow.holds Try.pinned (OpenSpec.ofChange codeChainsSpec)

/-- ITS FALSE NEIGHBOUR: 'it returns false'. Refute it at one input. -/
def codeChainsWrong : ChangeSpec := { name := "codeChains", fn := fun _ => fun
  | [d1, d2] => { results := [.lit (.bool false)], args := [d1, d2] }
  | _ => none }
def CodeChainsWrongFalsely : Prop := codeChainsRow.holds Try.pinned (OpenSpec.ofChange codeChainsWrong)

/-- 'neonwrightlaw03.CodeShadows': WHATEVER THE INPUT: true; the input reads as it did. -/
def codeShadowsSpec : ChangeSpec := { name := "codeShadows", fn := fun _ => fun
  | [d1, d2, d3, d4] => { results := [.lit (.bool true)], args := [d1, d2, d3, d4] }
  | _ => none }
def codeShadowsRow : OpenClaim := { program := "ytgchhheajngbfaa", sum := "8688fa93ad8cda1055b42df9d9348c79860fe57c843b5fe7a1f9c1c28e39438b", func := "neonwright/neonwrightlaw03.CodeShadows", spec := "codeShadows", recurses := true, apart := false }
def CodeShadowsSaid : Prop := codeShadowsRow.holds Try.pinned (OpenSpec.ofChange codeShadowsSpec)

/-- ITS FALSE NEIGHBOUR: 'it returns false'. Refute it at one input. -/
def codeShadowsWrong : ChangeSpec := { name := "codeShadows", fn := fun _ => fun
  | [d1, d2, d3, d4] => { results := [.lit (.bool false)], args := [d1, d2, d3, d4] }
  | _ => none }
def CodeShadowsWrongFalsely : Prop := codeShadowsRow.holds Try.pinned (OpenSpec.ofChange codeShadowsWrong)

/-- 'neonwrightlaw03.CodeInitial': WHATEVER THE INPUT: true; the input reads as it did. -/
def codeInitialSpec : ChangeSpec := { name := "codeInitial", fn := fun _ => fun
  | [d1, d2, d3] => { results := [.lit (.bool true)], args := [d1, d2, d3] }
  | _ => none }
def codeInitialRow : OpenClaim := { program := "ytgchhheajngbfaa", sum := "8688fa93ad8cda1055b42df9d9348c79860fe57c843b5fe7a1f9c1c28e39438b", func := "neonwright/neonwrightlaw03.CodeInitial", spec := "codeInitial", recurses := true, apart := false }
def CodeInitialSaid : Prop := codeInitialRow.holds Try.pinned (OpenSpec.ofChange codeInitialSpec)

/-- ITS FALSE NEIGHBOUR: 'it returns false'. Refute it at one input. -/
def codeInitialWrong : ChangeSpec := { name := "codeInitial", fn := fun _ => fun
  | [d1, d2, d3] => { results := [.lit (.bool false)], args := [d1, d2, d3] }
  | _ => none }
def CodeInitialWrongFalsely : Prop := codeInitialRow.holds Try.pinned (OpenSpec.ofChange codeInitialWrong)

/-- 'neonwrightlaw03.CodeSperner': WHATEVER THE INPUT: true; the input reads as it did. -/
def codeSpernerSpec : ChangeSpec := { name := "codeSperner", fn := fun _ => fun
  | [d1, d2] => { results := [.lit (.bool true)], args := [d1, d2] }
  | _ => none }
def codeSpernerRow : OpenClaim := { program := "ytgchhheajngbfaa", sum := "8688fa93ad8cda1055b42df9d9348c79860fe57c843b5fe7a1f9c1c28e39438b", func := "neonwright/neonwrightlaw03.CodeSperner", spec := "codeSperner", unfollowed := true, recurses := true, apart := false }
def CodeSpernerSaid : Prop := codeSpernerRow.holds Try.pinned (OpenSpec.ofChange codeSpernerSpec)

/-- ITS FALSE NEIGHBOUR: 'it returns false'. Refute it at one input. -/
def codeSpernerWrong : ChangeSpec := { name := "codeSperner", fn := fun _ => fun
  | [d1, d2] => { results := [.lit (.bool false)], args := [d1, d2] }
  | _ => none }
def CodeSpernerWrongFalsely : Prop := codeSpernerRow.holds Try.pinned (OpenSpec.ofChange codeSpernerWrong)

/-- 'neonwrightlaw03.CodeWeights': WHATEVER THE INPUT: true; the input reads as it did. -/
def codeWeightsSpec : ChangeSpec := { name := "codeWeights", fn := fun _ => fun
  | [d1, d2] => { results := [.lit (.bool true)], args := [d1, d2] }
  | _ => none }
def codeWeightsRow : OpenClaim := { program := "ytgchhheajngbfaa", sum := "8688fa93ad8cda1055b42df9d9348c79860fe57c843b5fe7a1f9c1c28e39438b", func := "neonwright/neonwrightlaw03.CodeWeights", spec := "codeWeights", recurses := true, apart := false }
def CodeWeightsSaid : Prop := codeWeightsRow.holds Try.pinned (OpenSpec.ofChange codeWeightsSpec)

/-- ITS FALSE NEIGHBOUR: 'it returns false'. Refute it at one input. -/
def codeWeightsWrong : ChangeSpec := { name := "codeWeights", fn := fun _ => fun
  | [d1, d2] => { results := [.lit (.bool false)], args := [d1, d2] }
  | _ => none }
def CodeWeightsWrongFalsely : Prop := codeWeightsRow.holds Try.pinned (OpenSpec.ofChange codeWeightsWrong)

/-- 'neonwrightlaw03.CodeLym': WHATEVER THE INPUT: true; the input reads as it did. -/
def codeLymSpec : ChangeSpec := { name := "codeLym", fn := fun _ => fun
  | [d1, d2, d3] => { results := [.lit (.bool true)], args := [d1, d2, d3] }
  | _ => none }
def codeLymRow : OpenClaim := { program := "ytgchhheajngbfaa", sum := "8688fa93ad8cda1055b42df9d9348c79860fe57c843b5fe7a1f9c1c28e39438b", func := "neonwright/neonwrightlaw03.CodeLym", spec := "codeLym", unfollowed := true, recurses := true, apart := false }
def CodeLymSaid : Prop := codeLymRow.holds Try.pinned (OpenSpec.ofChange codeLymSpec)

/-- ITS FALSE NEIGHBOUR: 'it returns false'. Refute it at one input. -/
def codeLymWrong : ChangeSpec := { name := "codeLym", fn := fun _ => fun
  | [d1, d2, d3] => { results := [.lit (.bool false)], args := [d1, d2, d3] }
  | _ => none }
def CodeLymWrongFalsely : Prop := codeLymRow.holds Try.pinned (OpenSpec.ofChange codeLymWrong)

/-- 'neonwrightlaw03.CodeMost': WHATEVER THE INPUT: true; the input reads as it did. -/
def codeMostSpec : ChangeSpec := { name := "codeMost", fn := fun _ => fun
  | [d1, d2] => { results := [.lit (.bool true)], args := [d1, d2] }
  | _ => none }
def codeMostRow : OpenClaim := { program := "ytgchhheajngbfaa", sum := "8688fa93ad8cda1055b42df9d9348c79860fe57c843b5fe7a1f9c1c28e39438b", func := "neonwright/neonwrightlaw03.CodeMost", spec := "codeMost", unfollowed := true, recurses := true, apart := false }
def CodeMostSaid : Prop := codeMostRow.holds Try.pinned (OpenSpec.ofChange codeMostSpec)

/-- ITS FALSE NEIGHBOUR: 'it returns false'. Refute it at one input. -/
def codeMostWrong : ChangeSpec := { name := "codeMost", fn := fun _ => fun
  | [d1, d2] => { results := [.lit (.bool false)], args := [d1, d2] }
  | _ => none }
def CodeMostWrongFalsely : Prop := codeMostRow.holds Try.pinned (OpenSpec.ofChange codeMostWrong)

/-- 'neonwrightlaw03.CodeDilworth': WHATEVER THE INPUT: true; the input reads as it did. -/
def codeDilworthSpec : ChangeSpec := { name := "codeDilworth", fn := fun _ => fun
  | [d1, d2, d3] => { results := [.lit (.bool true)], args := [d1, d2, d3] }
  | _ => none }
def codeDilworthRow : OpenClaim := { program := "ytgchhheajngbfaa", sum := "8688fa93ad8cda1055b42df9d9348c79860fe57c843b5fe7a1f9c1c28e39438b", func := "neonwright/neonwrightlaw03.CodeDilworth", spec := "codeDilworth", unfollowed := true, recurses := true, apart := false }
def CodeDilworthSaid : Prop := codeDilworthRow.holds Try.pinned (OpenSpec.ofChange codeDilworthSpec)

/-- ITS FALSE NEIGHBOUR: 'it returns false'. Refute it at one input. -/
def codeDilworthWrong : ChangeSpec := { name := "codeDilworth", fn := fun _ => fun
  | [d1, d2, d3] => { results := [.lit (.bool false)], args := [d1, d2, d3] }
  | _ => none }
def CodeDilworthWrongFalsely : Prop := codeDilworthRow.holds Try.pinned (OpenSpec.ofChange codeDilworthWrong)

/- THE SECOND FORM. 'bulk': how many values and letters a reading holds, each counted each time it is reached (what is shared counts as often as it is met; a slice's spare places count too). A statement '..UptoSaid' is the law's where the arguments, and the package variables that the reading takes, are together of bulk at most 1048576: NARROWER than '..Said'. Prove '..Said' where nothing that the law and all that it calls make is longer than what came in: it says more and counts as full. Else prove '..UptoSaid'. A law counts once. -/
mutual
def uptoBulk {H : Type} : DataW H → Nat
  | .lit (.string bytes) => bytes.length + 1
  | .lit _ => 1
  | .nil => 1
  | .ptr d => uptoBulk d + 1
  | .slice elems spare => uptoBulkAll elems + uptoBulkAll spare + 1
  | .agg parts => uptoBulkAll parts + 1
  | .iface _ d => uptoBulk d + 1
  | .map entries => uptoBulkEntries entries + 1
  | .held _ => 1
def uptoBulkAll {H : Type} : List (DataW H) → Nat
  | [] => 0
  | d :: r => uptoBulk d + uptoBulkAll r
def uptoBulkEntries {H : Type} : List (Lit × DataW H) → Nat
  | [] => 0
  | x :: r => uptoBulkEntry x + uptoBulkEntries r
def uptoBulkEntry {H : Type} : Lit × DataW H → Nat
  | (.string bytes, d) => bytes.length + uptoBulk d + 1
  | (_, d) => uptoBulk d + 1
 end
def uptoSmall : (H : Type) → List (DataW H) → Bool := fun _ ds => decide (uptoBulkAll ds ≤ 1048576)
def OpenSpec.upto (s : _root_.Go.ChangeSpec) : _root_.Go.OpenSpec := { _root_.Go.OpenSpec.ofChange s with cond := some uptoSmall }

/-- 'neonwrightlaw03.CodeCascades', WHERE WHAT IT READS IS OF BULK AT MOST 1048576: true; the input reads as it did. -/
def codeCascadesUptoRow : OpenClaim := { program := "ytgchhheajngbfaa", sum := "8688fa93ad8cda1055b42df9d9348c79860fe57c843b5fe7a1f9c1c28e39438b", func := "neonwright/neonwrightlaw03.CodeCascades", spec := "codeCascades", recurses := true, apart := false, narrowed := true }
def CodeCascadesUptoSaid : Prop := codeCascadesUptoRow.holds Try.pinned (OpenSpec.upto codeCascadesSpec)

/-- 'neonwrightlaw03.CodeBerger', WHERE WHAT IT READS IS OF BULK AT MOST 1048576: true; the input reads as it did. -/
def codeBergerUptoRow : OpenClaim := { program := "ytgchhheajngbfaa", sum := "8688fa93ad8cda1055b42df9d9348c79860fe57c843b5fe7a1f9c1c28e39438b", func := "neonwright/neonwrightlaw03.CodeBerger", spec := "codeBerger", recurses := true, apart := false, narrowed := true }
def CodeBergerUptoSaid : Prop := codeBergerUptoRow.holds Try.pinned (OpenSpec.upto codeBergerSpec)

/-- 'neonwrightlaw03.CodeDark', WHERE WHAT IT READS IS OF BULK AT MOST 1048576: true; the input reads as it did. -/
def codeDarkUptoRow : OpenClaim := { program := "ytgchhheajngbfaa", sum := "8688fa93ad8cda1055b42df9d9348c79860fe57c843b5fe7a1f9c1c28e39438b", func := "neonwright/neonwrightlaw03.CodeDark", spec := "codeDark", recurses := true, apart := false, narrowed := true }
def CodeDarkUptoSaid : Prop := codeDarkUptoRow.holds Try.pinned (OpenSpec.upto codeDarkSpec)

/-- 'neonwrightlaw03.CodeUnordered', WHERE WHAT IT READS IS OF BULK AT MOST 1048576: true; the input reads as it did. -/
def codeUnorderedUptoRow : OpenClaim := { program := "ytgchhheajngbfaa", sum := "8688fa93ad8cda1055b42df9d9348c79860fe57c843b5fe7a1f9c1c28e39438b", func := "neonwright/neonwrightlaw03.CodeUnordered", spec := "codeUnordered", recurses := true, apart := false, narrowed := true }
def CodeUnorderedUptoSaid : Prop := codeUnorderedUptoRow.holds Try.pinned (OpenSpec.upto codeUnorderedSpec)

/-- 'neonwrightlaw03.CodeChains', WHERE WHAT IT READS IS OF BULK AT MOST 1048576: true; the input reads as it did. -/
def codeChainsUptoRow : OpenClaim := { program := "ytgchhheajngbfaa", sum := "8688fa93ad8cda1055b42df9d9348c79860fe57c843b5fe7a1f9c1c28e39438b", func := "neonwright/neonwrightlaw03.CodeChains", spec := "codeChains", unfollowed := true, recurses := true, apart := false, narrowed := true }
def CodeChainsUptoSaid : Prop := codeChainsUptoRow.holds Try.pinned (OpenSpec.upto codeChainsSpec)

/-- 'neonwrightlaw03.CodeShadows', WHERE WHAT IT READS IS OF BULK AT MOST 1048576: true; the input reads as it did. -/
def codeShadowsUptoRow : OpenClaim := { program := "ytgchhheajngbfaa", sum := "8688fa93ad8cda1055b42df9d9348c79860fe57c843b5fe7a1f9c1c28e39438b", func := "neonwright/neonwrightlaw03.CodeShadows", spec := "codeShadows", recurses := true, apart := false, narrowed := true }
def CodeShadowsUptoSaid : Prop := codeShadowsUptoRow.holds Try.pinned (OpenSpec.upto codeShadowsSpec)

/-- 'neonwrightlaw03.CodeInitial', WHERE WHAT IT READS IS OF BULK AT MOST 1048576: true; the input reads as it did. -/
def codeInitialUptoRow : OpenClaim := { program := "ytgchhheajngbfaa", sum := "8688fa93ad8cda1055b42df9d9348c79860fe57c843b5fe7a1f9c1c28e39438b", func := "neonwright/neonwrightlaw03.CodeInitial", spec := "codeInitial", recurses := true, apart := false, narrowed := true }
def CodeInitialUptoSaid : Prop := codeInitialUptoRow.holds Try.pinned (OpenSpec.upto codeInitialSpec)

/-- 'neonwrightlaw03.CodeSperner', WHERE WHAT IT READS IS OF BULK AT MOST 1048576: true; the input reads as it did. -/
def codeSpernerUptoRow : OpenClaim := { program := "ytgchhheajngbfaa", sum := "8688fa93ad8cda1055b42df9d9348c79860fe57c843b5fe7a1f9c1c28e39438b", func := "neonwright/neonwrightlaw03.CodeSperner", spec := "codeSperner", unfollowed := true, recurses := true, apart := false, narrowed := true }
def CodeSpernerUptoSaid : Prop := codeSpernerUptoRow.holds Try.pinned (OpenSpec.upto codeSpernerSpec)

/-- 'neonwrightlaw03.CodeWeights', WHERE WHAT IT READS IS OF BULK AT MOST 1048576: true; the input reads as it did. -/
def codeWeightsUptoRow : OpenClaim := { program := "ytgchhheajngbfaa", sum := "8688fa93ad8cda1055b42df9d9348c79860fe57c843b5fe7a1f9c1c28e39438b", func := "neonwright/neonwrightlaw03.CodeWeights", spec := "codeWeights", recurses := true, apart := false, narrowed := true }
def CodeWeightsUptoSaid : Prop := codeWeightsUptoRow.holds Try.pinned (OpenSpec.upto codeWeightsSpec)

/-- 'neonwrightlaw03.CodeLym', WHERE WHAT IT READS IS OF BULK AT MOST 1048576: true; the input reads as it did. -/
def codeLymUptoRow : OpenClaim := { program := "ytgchhheajngbfaa", sum := "8688fa93ad8cda1055b42df9d9348c79860fe57c843b5fe7a1f9c1c28e39438b", func := "neonwright/neonwrightlaw03.CodeLym", spec := "codeLym", unfollowed := true, recurses := true, apart := false, narrowed := true }
def CodeLymUptoSaid : Prop := codeLymUptoRow.holds Try.pinned (OpenSpec.upto codeLymSpec)

/-- 'neonwrightlaw03.CodeMost', WHERE WHAT IT READS IS OF BULK AT MOST 1048576: true; the input reads as it did. -/
def codeMostUptoRow : OpenClaim := { program := "ytgchhheajngbfaa", sum := "8688fa93ad8cda1055b42df9d9348c79860fe57c843b5fe7a1f9c1c28e39438b", func := "neonwright/neonwrightlaw03.CodeMost", spec := "codeMost", unfollowed := true, recurses := true, apart := false, narrowed := true }
def CodeMostUptoSaid : Prop := codeMostUptoRow.holds Try.pinned (OpenSpec.upto codeMostSpec)

/-- 'neonwrightlaw03.CodeDilworth', WHERE WHAT IT READS IS OF BULK AT MOST 1048576: true; the input reads as it did. -/
def codeDilworthUptoRow : OpenClaim := { program := "ytgchhheajngbfaa", sum := "8688fa93ad8cda1055b42df9d9348c79860fe57c843b5fe7a1f9c1c28e39438b", func := "neonwright/neonwrightlaw03.CodeDilworth", spec := "codeDilworth", unfollowed := true, recurses := true, apart := false, narrowed := true }
def CodeDilworthUptoSaid : Prop := codeDilworthUptoRow.holds Try.pinned (OpenSpec.upto codeDilworthSpec)

end Rows
end Go.Proofs.Ytgchhheajngbfaa
