/-
  No cell of these rows narrows 'for every input' (looked for: loops, veiled, ifaces, maps, wideKeys, modest, calm, conditions, laid).
  DERIVED. THE GIVEN ROWS OF THIS SEAT. 12 by the template 'for every input the law returns true; each argument reads behind the call as it read before'; 0 by the template 'total and deterministic' (their statements: YtelfalicickelaaTotals.lean).
  GIVEN WITH THE SEED: the statements are not yours to turn. If you find one false, say at which input.
  Laid BY PROGRAM, IN A SANDBOX (cutbox-rows.mjs): the forced cells as the released guide's own fill.sh prints them over the translation a63d3931e975a1d3… (all of the seat's roots in one cut). By AI agents, Wed Nov 11 2026. No macro, syntax, notation, axiom, sorry.
-/
import Derived.Test.YtelfalicickelaaChecked
import GoSem.Claim
import GoSem.ClaimJoined
import GoSem.ClaimMapViews
import Derived.JoinedTies
import Derived.KernelRfl
namespace Go.Proofs.Ytelfalicickelaa
/- THE CELL 'sum', in the pinned program and in every row, IS THE sha256 OF THE DUMP (.gsa) THAT YtelfalicickelaaProg.lean LOADS. Nothing in Lean hashes anything: it is a label: what it is worth is what the hold of that sum in a sandbox is worth. -/
noncomputable def Try.pinned : Pinned := { name := "ytelfalicickelaa", sum := "a63d3931e975a1d3ce071ad42d2f5fcb61fe08a2855c66ece8fd2bd2626abf44", checked := Try.checked }
namespace Rows
def none {H : Type} : Left H := { results := [], args := [] }

/-- 'neonwrightlaw07.GateAlike': WHATEVER THE INPUT: true; the input reads as it did. -/
def gateAlikeSpec : ChangeSpec := { name := "gateAlike", fn := fun _ => fun
  | [d] => { results := [.lit (.bool true)], args := [d] }
  | _ => none }
def gateAlikeRow : OpenClaim := { program := "ytelfalicickelaa", sum := "a63d3931e975a1d3ce071ad42d2f5fcb61fe08a2855c66ece8fd2bd2626abf44", func := "neonwright/neonwrightlaw07.GateAlike", spec := "gateAlike", unfollowed := true, recurses := true, apart := false }
def GateAlikeSaid : Prop := gateAlikeRow.holds Try.pinned (OpenSpec.ofChange gateAlikeSpec)

/-- ITS FALSE NEIGHBOUR: 'it returns false'. Refute it at one input. -/
def gateAlikeWrong : ChangeSpec := { name := "gateAlike", fn := fun _ => fun
  | [d] => { results := [.lit (.bool false)], args := [d] }
  | _ => none }
def GateAlikeWrongFalsely : Prop := gateAlikeRow.holds Try.pinned (OpenSpec.ofChange gateAlikeWrong)

/-- 'neonwrightlaw07.GateFewest': WHATEVER THE INPUT: true; the input reads as it did. -/
def gateFewestSpec : ChangeSpec := { name := "gateFewest", fn := fun _ => fun
  | [d] => { results := [.lit (.bool true)], args := [d] }
  | _ => none }
def gateFewestRow : OpenClaim := { program := "ytelfalicickelaa", sum := "a63d3931e975a1d3ce071ad42d2f5fcb61fe08a2855c66ece8fd2bd2626abf44", func := "neonwright/neonwrightlaw07.GateFewest", spec := "gateFewest", unfollowed := true, recurses := true, apart := false }
def GateFewestSaid : Prop := gateFewestRow.holds Try.pinned (OpenSpec.ofChange gateFewestSpec)

/-- ITS FALSE NEIGHBOUR: 'it returns false'. Refute it at one input. -/
def gateFewestWrong : ChangeSpec := { name := "gateFewest", fn := fun _ => fun
  | [d] => { results := [.lit (.bool false)], args := [d] }
  | _ => none }
def GateFewestWrongFalsely : Prop := gateFewestRow.holds Try.pinned (OpenSpec.ofChange gateFewestWrong)

/-- 'neonwrightlaw07.GateTwins': WHATEVER THE INPUT: true; the input reads as it did. -/
def gateTwinsSpec : ChangeSpec := { name := "gateTwins", fn := fun _ => fun
  | [d1, d2] => { results := [.lit (.bool true)], args := [d1, d2] }
  | _ => none }
def gateTwinsRow : OpenClaim := { program := "ytelfalicickelaa", sum := "a63d3931e975a1d3ce071ad42d2f5fcb61fe08a2855c66ece8fd2bd2626abf44", func := "neonwright/neonwrightlaw07.GateTwins", spec := "gateTwins", unfollowed := true, recurses := true, apart := false }
def GateTwinsSaid : Prop := gateTwinsRow.holds Try.pinned (OpenSpec.ofChange gateTwinsSpec)

/-- ITS FALSE NEIGHBOUR: 'it returns false'. Refute it at one input. -/
def gateTwinsWrong : ChangeSpec := { name := "gateTwins", fn := fun _ => fun
  | [d1, d2] => { results := [.lit (.bool false)], args := [d1, d2] }
  | _ => none }
def GateTwinsWrongFalsely : Prop := gateTwinsRow.holds Try.pinned (OpenSpec.ofChange gateTwinsWrong)

/-- 'neonwrightlaw07.GateTests': WHATEVER THE INPUT: true; the input reads as it did. -/
def gateTestsSpec : ChangeSpec := { name := "gateTests", fn := fun _ => fun
  | [d1, d2, d3] => { results := [.lit (.bool true)], args := [d1, d2, d3] }
  | _ => none }
def gateTestsRow : OpenClaim := { program := "ytelfalicickelaa", sum := "a63d3931e975a1d3ce071ad42d2f5fcb61fe08a2855c66ece8fd2bd2626abf44", func := "neonwright/neonwrightlaw07.GateTests", spec := "gateTests", unfollowed := true, recurses := true, apart := false }
def GateTestsSaid : Prop := gateTestsRow.holds Try.pinned (OpenSpec.ofChange gateTestsSpec)

/-- ITS FALSE NEIGHBOUR: 'it returns false'. Refute it at one input. -/
def gateTestsWrong : ChangeSpec := { name := "gateTests", fn := fun _ => fun
  | [d1, d2, d3] => { results := [.lit (.bool false)], args := [d1, d2, d3] }
  | _ => none }
def GateTestsWrongFalsely : Prop := gateTestsRow.holds Try.pinned (OpenSpec.ofChange gateTestsWrong)

/-- 'neonwrightlaw07.GateFew': WHATEVER THE INPUT: true; the input reads as it did. -/
def gateFewSpec : ChangeSpec := { name := "gateFew", fn := fun _ => fun
  | [d] => { results := [.lit (.bool true)], args := [d] }
  | _ => none }
def gateFewRow : OpenClaim := { program := "ytelfalicickelaa", sum := "a63d3931e975a1d3ce071ad42d2f5fcb61fe08a2855c66ece8fd2bd2626abf44", func := "neonwright/neonwrightlaw07.GateFew", spec := "gateFew", unfollowed := true, recurses := true, apart := false }
def GateFewSaid : Prop := gateFewRow.holds Try.pinned (OpenSpec.ofChange gateFewSpec)

/-- ITS FALSE NEIGHBOUR: 'it returns false'. Refute it at one input. -/
def gateFewWrong : ChangeSpec := { name := "gateFew", fn := fun _ => fun
  | [d] => { results := [.lit (.bool false)], args := [d] }
  | _ => none }
def GateFewWrongFalsely : Prop := gateFewRow.holds Try.pinned (OpenSpec.ofChange gateFewWrong)

/-- 'neonwrightlaw07.GateMade': WHATEVER THE INPUT: true; the input reads as it did. -/
def gateMadeSpec : ChangeSpec := { name := "gateMade", fn := fun _ => fun
  | [d1, d2] => { results := [.lit (.bool true)], args := [d1, d2] }
  | _ => none }
def gateMadeRow : OpenClaim := { program := "ytelfalicickelaa", sum := "a63d3931e975a1d3ce071ad42d2f5fcb61fe08a2855c66ece8fd2bd2626abf44", func := "neonwright/neonwrightlaw07.GateMade", spec := "gateMade", unfollowed := true, recurses := true, apart := false }
def GateMadeSaid : Prop := gateMadeRow.holds Try.pinned (OpenSpec.ofChange gateMadeSpec)

/-- ITS FALSE NEIGHBOUR: 'it returns false'. Refute it at one input. -/
def gateMadeWrong : ChangeSpec := { name := "gateMade", fn := fun _ => fun
  | [d1, d2] => { results := [.lit (.bool false)], args := [d1, d2] }
  | _ => none }
def GateMadeWrongFalsely : Prop := gateMadeRow.holds Try.pinned (OpenSpec.ofChange gateMadeWrong)

/-- 'neonwrightlaw07.GateReplies': WHATEVER THE INPUT: true; the input reads as it did. -/
def gateRepliesSpec : ChangeSpec := { name := "gateReplies", fn := fun _ => fun
  | [d1, d2, d3] => { results := [.lit (.bool true)], args := [d1, d2, d3] }
  | _ => none }
def gateRepliesRow : OpenClaim := { program := "ytelfalicickelaa", sum := "a63d3931e975a1d3ce071ad42d2f5fcb61fe08a2855c66ece8fd2bd2626abf44", func := "neonwright/neonwrightlaw07.GateReplies", spec := "gateReplies", unfollowed := true, recurses := true, apart := false }
def GateRepliesSaid : Prop := gateRepliesRow.holds Try.pinned (OpenSpec.ofChange gateRepliesSpec)

/-- ITS FALSE NEIGHBOUR: 'it returns false'. Refute it at one input. -/
def gateRepliesWrong : ChangeSpec := { name := "gateReplies", fn := fun _ => fun
  | [d1, d2, d3] => { results := [.lit (.bool false)], args := [d1, d2, d3] }
  | _ => none }
def GateRepliesWrongFalsely : Prop := gateRepliesRow.holds Try.pinned (OpenSpec.ofChange gateRepliesWrong)

/-- 'neonwrightlaw07.GateSuspects': WHATEVER THE INPUT: true; the input reads as it did. -/
def gateSuspectsSpec : ChangeSpec := { name := "gateSuspects", fn := fun _ => fun
  | [d1, d2, d3] => { results := [.lit (.bool true)], args := [d1, d2, d3] }
  | _ => none }
def gateSuspectsRow : OpenClaim := { program := "ytelfalicickelaa", sum := "a63d3931e975a1d3ce071ad42d2f5fcb61fe08a2855c66ece8fd2bd2626abf44", func := "neonwright/neonwrightlaw07.GateSuspects", spec := "gateSuspects", unfollowed := true, recurses := true, apart := false }
def GateSuspectsSaid : Prop := gateSuspectsRow.holds Try.pinned (OpenSpec.ofChange gateSuspectsSpec)

/-- ITS FALSE NEIGHBOUR: 'it returns false'. Refute it at one input. -/
def gateSuspectsWrong : ChangeSpec := { name := "gateSuspects", fn := fun _ => fun
  | [d1, d2, d3] => { results := [.lit (.bool false)], args := [d1, d2, d3] }
  | _ => none }
def GateSuspectsWrongFalsely : Prop := gateSuspectsRow.holds Try.pinned (OpenSpec.ofChange gateSuspectsWrong)

/-- 'neonwrightlaw07.GateShows': WHATEVER THE INPUT: true; the input reads as it did. -/
def gateShowsSpec : ChangeSpec := { name := "gateShows", fn := fun _ => fun
  | [d1, d2] => { results := [.lit (.bool true)], args := [d1, d2] }
  | _ => none }
def gateShowsRow : OpenClaim := { program := "ytelfalicickelaa", sum := "a63d3931e975a1d3ce071ad42d2f5fcb61fe08a2855c66ece8fd2bd2626abf44", func := "neonwright/neonwrightlaw07.GateShows", spec := "gateShows", unfollowed := true, recurses := true, apart := false }
def GateShowsSaid : Prop := gateShowsRow.holds Try.pinned (OpenSpec.ofChange gateShowsSpec)

/-- ITS FALSE NEIGHBOUR: 'it returns false'. Refute it at one input. -/
def gateShowsWrong : ChangeSpec := { name := "gateShows", fn := fun _ => fun
  | [d1, d2] => { results := [.lit (.bool false)], args := [d1, d2] }
  | _ => none }
def GateShowsWrongFalsely : Prop := gateShowsRow.holds Try.pinned (OpenSpec.ofChange gateShowsWrong)

/-- 'neonwrightlaw07.GateFinds': WHATEVER THE INPUT: true; the input reads as it did. -/
def gateFindsSpec : ChangeSpec := { name := "gateFinds", fn := fun _ => fun
  | [d1, d2, d3] => { results := [.lit (.bool true)], args := [d1, d2, d3] }
  | _ => none }
def gateFindsRow : OpenClaim := { program := "ytelfalicickelaa", sum := "a63d3931e975a1d3ce071ad42d2f5fcb61fe08a2855c66ece8fd2bd2626abf44", func := "neonwright/neonwrightlaw07.GateFinds", spec := "gateFinds", unfollowed := true, recurses := true, apart := false }
def GateFindsSaid : Prop := gateFindsRow.holds Try.pinned (OpenSpec.ofChange gateFindsSpec)

/-- ITS FALSE NEIGHBOUR: 'it returns false'. Refute it at one input. -/
def gateFindsWrong : ChangeSpec := { name := "gateFinds", fn := fun _ => fun
  | [d1, d2, d3] => { results := [.lit (.bool false)], args := [d1, d2, d3] }
  | _ => none }
def GateFindsWrongFalsely : Prop := gateFindsRow.holds Try.pinned (OpenSpec.ofChange gateFindsWrong)

/-- 'neonwrightlaw07.GateLeans': WHATEVER THE INPUT: true; the input reads as it did. -/
def gateLeansSpec : ChangeSpec := { name := "gateLeans", fn := fun _ => fun
  | [d1, d2] => { results := [.lit (.bool true)], args := [d1, d2] }
  | _ => none }
def gateLeansRow : OpenClaim := { program := "ytelfalicickelaa", sum := "a63d3931e975a1d3ce071ad42d2f5fcb61fe08a2855c66ece8fd2bd2626abf44", func := "neonwright/neonwrightlaw07.GateLeans", spec := "gateLeans", unfollowed := true, recurses := true, apart := false }
def GateLeansSaid : Prop := gateLeansRow.holds Try.pinned (OpenSpec.ofChange gateLeansSpec)

/-- ITS FALSE NEIGHBOUR: 'it returns false'. Refute it at one input. -/
def gateLeansWrong : ChangeSpec := { name := "gateLeans", fn := fun _ => fun
  | [d1, d2] => { results := [.lit (.bool false)], args := [d1, d2] }
  | _ => none }
def GateLeansWrongFalsely : Prop := gateLeansRow.holds Try.pinned (OpenSpec.ofChange gateLeansWrong)

/-- 'neonwrightlaw07.GateLean': WHATEVER THE INPUT: true; the input reads as it did. -/
def gateLeanSpec : ChangeSpec := { name := "gateLean", fn := fun _ => fun
  | [d] => { results := [.lit (.bool true)], args := [d] }
  | _ => none }
def gateLeanRow : OpenClaim := { program := "ytelfalicickelaa", sum := "a63d3931e975a1d3ce071ad42d2f5fcb61fe08a2855c66ece8fd2bd2626abf44", func := "neonwright/neonwrightlaw07.GateLean", spec := "gateLean", unfollowed := true, recurses := true, apart := false }
def GateLeanSaid : Prop := gateLeanRow.holds Try.pinned (OpenSpec.ofChange gateLeanSpec)

/-- ITS FALSE NEIGHBOUR: 'it returns false'. Refute it at one input. -/
def gateLeanWrong : ChangeSpec := { name := "gateLean", fn := fun _ => fun
  | [d] => { results := [.lit (.bool false)], args := [d] }
  | _ => none }
def GateLeanWrongFalsely : Prop := gateLeanRow.holds Try.pinned (OpenSpec.ofChange gateLeanWrong)

/- THE SECOND FORM. 'bulk': how many values and letters a reading holds, each counted each time it is reached (what is shared counts as often as it is met; a slice's spare places count too). A statement '..UptoSaid' is the law's where the arguments, and the package variables that the reading takes, are together of bulk at most 1048576: NARROWER than '..Said'. Prove '..Said' where nothing that the law and all that it calls make is longer than what came in: it says more and counts as full. Else prove '..UptoSaid'. A law counts once. -/
mutual
def uptoBulk {H : Type} : DataW H → Nat
  | .lit (.string bytes) => bytes.length + 1
  | .lit _ => 1
  | .nil => 1
  | .ptr d => uptoBulk d + 1
  | .slice elems spare => uptoBulkAll elems + uptoBulkAll spare + 1
  | .agg parts => uptoBulkAll parts + 1
  | .iface _ d => uptoBulk d + 1
  | .map entries => uptoBulkEntries entries + 1
  | .held _ => 1
def uptoBulkAll {H : Type} : List (DataW H) → Nat
  | [] => 0
  | d :: r => uptoBulk d + uptoBulkAll r
def uptoBulkEntries {H : Type} : List (Lit × DataW H) → Nat
  | [] => 0
  | x :: r => uptoBulkEntry x + uptoBulkEntries r
def uptoBulkEntry {H : Type} : Lit × DataW H → Nat
  | (.string bytes, d) => bytes.length + uptoBulk d + 1
  | (_, d) => uptoBulk d + 1
 end
def uptoSmall : (H : Type) → List (DataW H) → Bool := fun _ ds => decide (uptoBulkAll ds ≤ 1048576)
def OpenSpec.upto (s : _root_.Go.ChangeSpec) : _root_.Go.OpenSpec := { _root_.Go.OpenSpec.ofChange s with cond := some uptoSmall }

/-- 'neonwrightlaw07.GateAlike', WHERE WHAT IT READS IS OF BULK AT MOST 1048576: true; the input reads as it did. -/
def gateAlikeUptoRow : OpenClaim := { program := "ytelfalicickelaa", sum := "a63d3931e975a1d3ce071ad42d2f5fcb61fe08a2855c66ece8fd2bd2626abf44", func := "neonwright/neonwrightlaw07.GateAlike", spec := "gateAlike", unfollowed := true, recurses := true, apart := false, narrowed := true }
def GateAlikeUptoSaid : Prop := gateAlikeUptoRow.holds Try.pinned (OpenSpec.upto gateAlikeSpec)

/-- 'neonwrightlaw07.GateFewest', WHERE WHAT IT READS IS OF BULK AT MOST 1048576: true; the input reads as it did. -/
def gateFewestUptoRow : OpenClaim := { program := "ytelfalicickelaa", sum := "a63d3931e975a1d3ce071ad42d2f5fcb61fe08a2855c66ece8fd2bd2626abf44", func := "neonwright/neonwrightlaw07.GateFewest", spec := "gateFewest", unfollowed := true, recurses := true, apart := false, narrowed := true }
def GateFewestUptoSaid : Prop := gateFewestUptoRow.holds Try.pinned (OpenSpec.upto gateFewestSpec)

/-- 'neonwrightlaw07.GateTwins', WHERE WHAT IT READS IS OF BULK AT MOST 1048576: true; the input reads as it did. -/
def gateTwinsUptoRow : OpenClaim := { program := "ytelfalicickelaa", sum := "a63d3931e975a1d3ce071ad42d2f5fcb61fe08a2855c66ece8fd2bd2626abf44", func := "neonwright/neonwrightlaw07.GateTwins", spec := "gateTwins", unfollowed := true, recurses := true, apart := false, narrowed := true }
def GateTwinsUptoSaid : Prop := gateTwinsUptoRow.holds Try.pinned (OpenSpec.upto gateTwinsSpec)

/-- 'neonwrightlaw07.GateTests', WHERE WHAT IT READS IS OF BULK AT MOST 1048576: true; the input reads as it did. -/
def gateTestsUptoRow : OpenClaim := { program := "ytelfalicickelaa", sum := "a63d3931e975a1d3ce071ad42d2f5fcb61fe08a2855c66ece8fd2bd2626abf44", func := "neonwright/neonwrightlaw07.GateTests", spec := "gateTests", unfollowed := true, recurses := true, apart := false, narrowed := true }
def GateTestsUptoSaid : Prop := gateTestsUptoRow.holds Try.pinned (OpenSpec.upto gateTestsSpec)

/-- 'neonwrightlaw07.GateFew', WHERE WHAT IT READS IS OF BULK AT MOST 1048576: true; the input reads as it did. -/
def gateFewUptoRow : OpenClaim := { program := "ytelfalicickelaa", sum := "a63d3931e975a1d3ce071ad42d2f5fcb61fe08a2855c66ece8fd2bd2626abf44", func := "neonwright/neonwrightlaw07.GateFew", spec := "gateFew", unfollowed := true, recurses := true, apart := false, narrowed := true }
def GateFewUptoSaid : Prop := gateFewUptoRow.holds Try.pinned (OpenSpec.upto gateFewSpec)

/-- 'neonwrightlaw07.GateMade', WHERE WHAT IT READS IS OF BULK AT MOST 1048576: true; the input reads as it did. -/
def gateMadeUptoRow : OpenClaim := { program := "ytelfalicickelaa", sum := "a63d3931e975a1d3ce071ad42d2f5fcb61fe08a2855c66ece8fd2bd2626abf44", func := "neonwright/neonwrightlaw07.GateMade", spec := "gateMade", unfollowed := true, recurses := true, apart := false, narrowed := true }
def GateMadeUptoSaid : Prop := gateMadeUptoRow.holds Try.pinned (OpenSpec.upto gateMadeSpec)

/-- 'neonwrightlaw07.GateReplies', WHERE WHAT IT READS IS OF BULK AT MOST 1048576: true; the input reads as it did. -/
def gateRepliesUptoRow : OpenClaim := { program := "ytelfalicickelaa", sum := "a63d3931e975a1d3ce071ad42d2f5fcb61fe08a2855c66ece8fd2bd2626abf44", func := "neonwright/neonwrightlaw07.GateReplies", spec := "gateReplies", unfollowed := true, recurses := true, apart := false, narrowed := true }
def GateRepliesUptoSaid : Prop := gateRepliesUptoRow.holds Try.pinned (OpenSpec.upto gateRepliesSpec)

/-- 'neonwrightlaw07.GateSuspects', WHERE WHAT IT READS IS OF BULK AT MOST 1048576: true; the input reads as it did. -/
def gateSuspectsUptoRow : OpenClaim := { program := "ytelfalicickelaa", sum := "a63d3931e975a1d3ce071ad42d2f5fcb61fe08a2855c66ece8fd2bd2626abf44", func := "neonwright/neonwrightlaw07.GateSuspects", spec := "gateSuspects", unfollowed := true, recurses := true, apart := false, narrowed := true }
def GateSuspectsUptoSaid : Prop := gateSuspectsUptoRow.holds Try.pinned (OpenSpec.upto gateSuspectsSpec)

/-- 'neonwrightlaw07.GateShows', WHERE WHAT IT READS IS OF BULK AT MOST 1048576: true; the input reads as it did. -/
def gateShowsUptoRow : OpenClaim := { program := "ytelfalicickelaa", sum := "a63d3931e975a1d3ce071ad42d2f5fcb61fe08a2855c66ece8fd2bd2626abf44", func := "neonwright/neonwrightlaw07.GateShows", spec := "gateShows", unfollowed := true, recurses := true, apart := false, narrowed := true }
def GateShowsUptoSaid : Prop := gateShowsUptoRow.holds Try.pinned (OpenSpec.upto gateShowsSpec)

/-- 'neonwrightlaw07.GateFinds', WHERE WHAT IT READS IS OF BULK AT MOST 1048576: true; the input reads as it did. -/
def gateFindsUptoRow : OpenClaim := { program := "ytelfalicickelaa", sum := "a63d3931e975a1d3ce071ad42d2f5fcb61fe08a2855c66ece8fd2bd2626abf44", func := "neonwright/neonwrightlaw07.GateFinds", spec := "gateFinds", unfollowed := true, recurses := true, apart := false, narrowed := true }
def GateFindsUptoSaid : Prop := gateFindsUptoRow.holds Try.pinned (OpenSpec.upto gateFindsSpec)

/-- 'neonwrightlaw07.GateLeans', WHERE WHAT IT READS IS OF BULK AT MOST 1048576: true; the input reads as it did. -/
def gateLeansUptoRow : OpenClaim := { program := "ytelfalicickelaa", sum := "a63d3931e975a1d3ce071ad42d2f5fcb61fe08a2855c66ece8fd2bd2626abf44", func := "neonwright/neonwrightlaw07.GateLeans", spec := "gateLeans", unfollowed := true, recurses := true, apart := false, narrowed := true }
def GateLeansUptoSaid : Prop := gateLeansUptoRow.holds Try.pinned (OpenSpec.upto gateLeansSpec)

/-- 'neonwrightlaw07.GateLean', WHERE WHAT IT READS IS OF BULK AT MOST 1048576: true; the input reads as it did. -/
def gateLeanUptoRow : OpenClaim := { program := "ytelfalicickelaa", sum := "a63d3931e975a1d3ce071ad42d2f5fcb61fe08a2855c66ece8fd2bd2626abf44", func := "neonwright/neonwrightlaw07.GateLean", spec := "gateLean", unfollowed := true, recurses := true, apart := false, narrowed := true }
def GateLeanUptoSaid : Prop := gateLeanUptoRow.holds Try.pinned (OpenSpec.upto gateLeanSpec)

end Rows
end Go.Proofs.Ytelfalicickelaa
