/-
  No cell of these rows narrows 'for every input' (looked for: loops, veiled, ifaces, maps, wideKeys, modest, calm, conditions, laid).
  DERIVED. THE GIVEN ROWS OF THIS SEAT. 6 by the template 'for every input the law returns true; each argument reads behind the call as it read before'; 0 by the template 'total and deterministic' (their statements: YtadfdknlogceoaaTotals.lean).
  GIVEN WITH THE SEED: the statements are not yours to turn. If you find one false, say at which input.
  Laid BY PROGRAM, IN A SANDBOX (cutbox-rows.mjs): the forced cells as the released guide's own fill.sh prints them over the translation 6ec3f207f8f078c2… (all of the seat's roots in one cut). By AI agents, Wed Nov 11 2026. No macro, syntax, notation, axiom, sorry.
-/
import Derived.Test.YtadfdknlogceoaaChecked
import GoSem.Claim
import GoSem.ClaimJoined
import GoSem.ClaimMapViews
import Derived.JoinedTies
import Derived.KernelRfl
namespace Go.Proofs.Ytadfdknlogceoaa
/- THE CELL 'sum', in the pinned program and in every row, IS THE sha256 OF THE DUMP (.gsa) THAT YtadfdknlogceoaaProg.lean LOADS. Nothing in Lean hashes anything: it is a label: what it is worth is what the hold of that sum in a sandbox is worth. -/
noncomputable def Try.pinned : Pinned := { name := "ytadfdknlogceoaa", sum := "6ec3f207f8f078c2a982a8039c62107457ea6b2e45e094c77d18e0afa355bcc3", checked := Try.checked }
namespace Rows
def none {H : Type} : Left H := { results := [], args := [] }

/-- 'tenonlaw14.GraphMakes': WHATEVER THE INPUT: true; the input reads as it did. -/
def graphMakesSpec : ChangeSpec := { name := "graphMakes", fn := fun _ => fun
  | [d1, d2] => { results := [.lit (.bool true)], args := [d1, d2] }
  | _ => none }
def graphMakesRow : OpenClaim := { program := "ytadfdknlogceoaa", sum := "6ec3f207f8f078c2a982a8039c62107457ea6b2e45e094c77d18e0afa355bcc3", func := "tenon/tenonlaw14.GraphMakes", spec := "graphMakes", inPlace := ["slices.overlaps[tenon/api.Ref]"], unfollowed := true, recurses := true, apart := false }
def GraphMakesSaid : Prop := graphMakesRow.holds Try.pinned (OpenSpec.ofChange graphMakesSpec)

/-- ITS FALSE NEIGHBOUR: 'it returns false'. Refute it at one input. -/
def graphMakesWrong : ChangeSpec := { name := "graphMakes", fn := fun _ => fun
  | [d1, d2] => { results := [.lit (.bool false)], args := [d1, d2] }
  | _ => none }
def GraphMakesWrongFalsely : Prop := graphMakesRow.holds Try.pinned (OpenSpec.ofChange graphMakesWrong)

/-- 'tenonlaw14.GraphParts': WHATEVER THE INPUT: true; the input reads as it did. -/
def graphPartsSpec : ChangeSpec := { name := "graphParts", fn := fun _ => fun
  | [d1, d2] => { results := [.lit (.bool true)], args := [d1, d2] }
  | _ => none }
def graphPartsRow : OpenClaim := { program := "ytadfdknlogceoaa", sum := "6ec3f207f8f078c2a982a8039c62107457ea6b2e45e094c77d18e0afa355bcc3", func := "tenon/tenonlaw14.GraphParts", spec := "graphParts", inPlace := ["slices.overlaps[tenon/api.Ref]"], unfollowed := true, recurses := true, apart := false }
def GraphPartsSaid : Prop := graphPartsRow.holds Try.pinned (OpenSpec.ofChange graphPartsSpec)

/-- ITS FALSE NEIGHBOUR: 'it returns false'. Refute it at one input. -/
def graphPartsWrong : ChangeSpec := { name := "graphParts", fn := fun _ => fun
  | [d1, d2] => { results := [.lit (.bool false)], args := [d1, d2] }
  | _ => none }
def GraphPartsWrongFalsely : Prop := graphPartsRow.holds Try.pinned (OpenSpec.ofChange graphPartsWrong)

/-- 'tenonlaw14.GraphKept': WHATEVER THE INPUT: true; the input reads as it did. -/
def graphKeptSpec : ChangeSpec := { name := "graphKept", fn := fun _ => fun
  | [d1, d2, d3, d4] => { results := [.lit (.bool true)], args := [d1, d2, d3, d4] }
  | _ => none }
def graphKeptRow : OpenClaim := { program := "ytadfdknlogceoaa", sum := "6ec3f207f8f078c2a982a8039c62107457ea6b2e45e094c77d18e0afa355bcc3", func := "tenon/tenonlaw14.GraphKept", spec := "graphKept", inPlace := ["slices.overlaps[tenon/api.Ref]"], unfollowed := true, recurses := true, apart := false }
def GraphKeptSaid : Prop := graphKeptRow.holds Try.pinned (OpenSpec.ofChange graphKeptSpec)

/-- ITS FALSE NEIGHBOUR: 'it returns false'. Refute it at one input. -/
def graphKeptWrong : ChangeSpec := { name := "graphKept", fn := fun _ => fun
  | [d1, d2, d3, d4] => { results := [.lit (.bool false)], args := [d1, d2, d3, d4] }
  | _ => none }
def GraphKeptWrongFalsely : Prop := graphKeptRow.holds Try.pinned (OpenSpec.ofChange graphKeptWrong)

/-- 'tenonlaw14.GraphShort': WHATEVER THE INPUT: true; the input reads as it did. -/
def graphShortSpec : ChangeSpec := { name := "graphShort", fn := fun _ => fun
  | [d1, d2] => { results := [.lit (.bool true)], args := [d1, d2] }
  | _ => none }
def graphShortRow : OpenClaim := { program := "ytadfdknlogceoaa", sum := "6ec3f207f8f078c2a982a8039c62107457ea6b2e45e094c77d18e0afa355bcc3", func := "tenon/tenonlaw14.GraphShort", spec := "graphShort", inPlace := ["slices.overlaps[tenon/api.Ref]"], unfollowed := true, recurses := true, apart := false }
def GraphShortSaid : Prop := graphShortRow.holds Try.pinned (OpenSpec.ofChange graphShortSpec)

/-- ITS FALSE NEIGHBOUR: 'it returns false'. Refute it at one input. -/
def graphShortWrong : ChangeSpec := { name := "graphShort", fn := fun _ => fun
  | [d1, d2] => { results := [.lit (.bool false)], args := [d1, d2] }
  | _ => none }
def GraphShortWrongFalsely : Prop := graphShortRow.holds Try.pinned (OpenSpec.ofChange graphShortWrong)

/-- 'tenonlaw14.GraphWays': WHATEVER THE INPUT: true; the input reads as it did. -/
def graphWaysSpec : ChangeSpec := { name := "graphWays", fn := fun _ => fun
  | [d1, d2, d3, d4] => { results := [.lit (.bool true)], args := [d1, d2, d3, d4] }
  | _ => none }
def graphWaysRow : OpenClaim := { program := "ytadfdknlogceoaa", sum := "6ec3f207f8f078c2a982a8039c62107457ea6b2e45e094c77d18e0afa355bcc3", func := "tenon/tenonlaw14.GraphWays", spec := "graphWays", inPlace := ["slices.overlaps[tenon/api.Ref]"], unfollowed := true, recurses := true, apart := false }
def GraphWaysSaid : Prop := graphWaysRow.holds Try.pinned (OpenSpec.ofChange graphWaysSpec)

/-- ITS FALSE NEIGHBOUR: 'it returns false'. Refute it at one input. -/
def graphWaysWrong : ChangeSpec := { name := "graphWays", fn := fun _ => fun
  | [d1, d2, d3, d4] => { results := [.lit (.bool false)], args := [d1, d2, d3, d4] }
  | _ => none }
def GraphWaysWrongFalsely : Prop := graphWaysRow.holds Try.pinned (OpenSpec.ofChange graphWaysWrong)

/-- 'tenonlaw14.GraphOnce': WHATEVER THE INPUT: true; the input reads as it did. -/
def graphOnceSpec : ChangeSpec := { name := "graphOnce", fn := fun _ => fun
  | [d1, d2, d3] => { results := [.lit (.bool true)], args := [d1, d2, d3] }
  | _ => none }
def graphOnceRow : OpenClaim := { program := "ytadfdknlogceoaa", sum := "6ec3f207f8f078c2a982a8039c62107457ea6b2e45e094c77d18e0afa355bcc3", func := "tenon/tenonlaw14.GraphOnce", spec := "graphOnce", inPlace := ["slices.overlaps[tenon/api.Ref]"], unfollowed := true, recurses := true, apart := false }
def GraphOnceSaid : Prop := graphOnceRow.holds Try.pinned (OpenSpec.ofChange graphOnceSpec)

/-- ITS FALSE NEIGHBOUR: 'it returns false'. Refute it at one input. -/
def graphOnceWrong : ChangeSpec := { name := "graphOnce", fn := fun _ => fun
  | [d1, d2, d3] => { results := [.lit (.bool false)], args := [d1, d2, d3] }
  | _ => none }
def GraphOnceWrongFalsely : Prop := graphOnceRow.holds Try.pinned (OpenSpec.ofChange graphOnceWrong)

/- THE SECOND FORM. 'bulk': how many values and letters a reading holds, each counted each time it is reached (what is shared counts as often as it is met; a slice's spare places count too). A statement '..UptoSaid' is the law's where the arguments, and the package variables that the reading takes, are together of bulk at most 1048576: NARROWER than '..Said'. Prove '..Said' where nothing that the law and all that it calls make is longer than what came in: it says more and counts as full. Else prove '..UptoSaid'. A law counts once. -/
mutual
def uptoBulk {H : Type} : DataW H → Nat
  | .lit (.string bytes) => bytes.length + 1
  | .lit _ => 1
  | .nil => 1
  | .ptr d => uptoBulk d + 1
  | .slice elems spare => uptoBulkAll elems + uptoBulkAll spare + 1
  | .agg parts => uptoBulkAll parts + 1
  | .iface _ d => uptoBulk d + 1
  | .map entries => uptoBulkEntries entries + 1
  | .held _ => 1
def uptoBulkAll {H : Type} : List (DataW H) → Nat
  | [] => 0
  | d :: r => uptoBulk d + uptoBulkAll r
def uptoBulkEntries {H : Type} : List (Lit × DataW H) → Nat
  | [] => 0
  | x :: r => uptoBulkEntry x + uptoBulkEntries r
def uptoBulkEntry {H : Type} : Lit × DataW H → Nat
  | (.string bytes, d) => bytes.length + uptoBulk d + 1
  | (_, d) => uptoBulk d + 1
 end
def uptoSmall : (H : Type) → List (DataW H) → Bool := fun _ ds => decide (uptoBulkAll ds ≤ 1048576)
def OpenSpec.upto (s : _root_.Go.ChangeSpec) : _root_.Go.OpenSpec := { _root_.Go.OpenSpec.ofChange s with cond := some uptoSmall }

/-- 'tenonlaw14.GraphMakes', WHERE WHAT IT READS IS OF BULK AT MOST 1048576: true; the input reads as it did. -/
def graphMakesUptoRow : OpenClaim := { program := "ytadfdknlogceoaa", sum := "6ec3f207f8f078c2a982a8039c62107457ea6b2e45e094c77d18e0afa355bcc3", func := "tenon/tenonlaw14.GraphMakes", spec := "graphMakes", inPlace := ["slices.overlaps[tenon/api.Ref]"], unfollowed := true, recurses := true, apart := false, narrowed := true }
def GraphMakesUptoSaid : Prop := graphMakesUptoRow.holds Try.pinned (OpenSpec.upto graphMakesSpec)

/-- 'tenonlaw14.GraphParts', WHERE WHAT IT READS IS OF BULK AT MOST 1048576: true; the input reads as it did. -/
def graphPartsUptoRow : OpenClaim := { program := "ytadfdknlogceoaa", sum := "6ec3f207f8f078c2a982a8039c62107457ea6b2e45e094c77d18e0afa355bcc3", func := "tenon/tenonlaw14.GraphParts", spec := "graphParts", inPlace := ["slices.overlaps[tenon/api.Ref]"], unfollowed := true, recurses := true, apart := false, narrowed := true }
def GraphPartsUptoSaid : Prop := graphPartsUptoRow.holds Try.pinned (OpenSpec.upto graphPartsSpec)

/-- 'tenonlaw14.GraphKept', WHERE WHAT IT READS IS OF BULK AT MOST 1048576: true; the input reads as it did. -/
def graphKeptUptoRow : OpenClaim := { program := "ytadfdknlogceoaa", sum := "6ec3f207f8f078c2a982a8039c62107457ea6b2e45e094c77d18e0afa355bcc3", func := "tenon/tenonlaw14.GraphKept", spec := "graphKept", inPlace := ["slices.overlaps[tenon/api.Ref]"], unfollowed := true, recurses := true, apart := false, narrowed := true }
def GraphKeptUptoSaid : Prop := graphKeptUptoRow.holds Try.pinned (OpenSpec.upto graphKeptSpec)

/-- 'tenonlaw14.GraphShort', WHERE WHAT IT READS IS OF BULK AT MOST 1048576: true; the input reads as it did. -/
def graphShortUptoRow : OpenClaim := { program := "ytadfdknlogceoaa", sum := "6ec3f207f8f078c2a982a8039c62107457ea6b2e45e094c77d18e0afa355bcc3", func := "tenon/tenonlaw14.GraphShort", spec := "graphShort", inPlace := ["slices.overlaps[tenon/api.Ref]"], unfollowed := true, recurses := true, apart := false, narrowed := true }
def GraphShortUptoSaid : Prop := graphShortUptoRow.holds Try.pinned (OpenSpec.upto graphShortSpec)

/-- 'tenonlaw14.GraphWays', WHERE WHAT IT READS IS OF BULK AT MOST 1048576: true; the input reads as it did. -/
def graphWaysUptoRow : OpenClaim := { program := "ytadfdknlogceoaa", sum := "6ec3f207f8f078c2a982a8039c62107457ea6b2e45e094c77d18e0afa355bcc3", func := "tenon/tenonlaw14.GraphWays", spec := "graphWays", inPlace := ["slices.overlaps[tenon/api.Ref]"], unfollowed := true, recurses := true, apart := false, narrowed := true }
def GraphWaysUptoSaid : Prop := graphWaysUptoRow.holds Try.pinned (OpenSpec.upto graphWaysSpec)

/-- 'tenonlaw14.GraphOnce', WHERE WHAT IT READS IS OF BULK AT MOST 1048576: true; the input reads as it did. -/
def graphOnceUptoRow : OpenClaim := { program := "ytadfdknlogceoaa", sum := "6ec3f207f8f078c2a982a8039c62107457ea6b2e45e094c77d18e0afa355bcc3", func := "tenon/tenonlaw14.GraphOnce", spec := "graphOnce", inPlace := ["slices.overlaps[tenon/api.Ref]"], unfollowed := true, recurses := true, apart := false, narrowed := true }
def GraphOnceUptoSaid : Prop := graphOnceUptoRow.holds Try.pinned (OpenSpec.upto graphOnceSpec)

end Rows
end Go.Proofs.Ytadfdknlogceoaa
