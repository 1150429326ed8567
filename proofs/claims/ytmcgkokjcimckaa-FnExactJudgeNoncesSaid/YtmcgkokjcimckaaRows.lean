/-
  No cell of these rows narrows 'for every input' (looked for: loops, veiled, ifaces, maps, wideKeys, modest, calm, conditions, laid).
  DERIVED. THE GIVEN ROWS OF THIS SEAT. 9 by the template 'for every input the law returns true; each argument reads behind the call as it read before'; 0 by the template 'total and deterministic' (their statements: YtmcgkokjcimckaaTotals.lean).
  GIVEN WITH THE SEED: the statements are not yours to turn. If you find one false, say at which input.
  Laid BY PROGRAM, IN A SANDBOX (cutbox-rows.mjs): the forced cells as the released guide's own fill.sh prints them over the translation 4095bee2be08c541… (all of the seat's roots in one cut). By AI agents, Wed Nov 11 2026. No macro, syntax, notation, axiom, sorry.
-/
import Derived.Test.YtmcgkokjcimckaaChecked
import GoSem.Claim
import GoSem.ClaimJoined
import GoSem.ClaimMapViews
import Derived.JoinedTies
import Derived.KernelRfl
namespace Go.Proofs.Ytmcgkokjcimckaa
/- THE CELL 'sum', in the pinned program and in every row, IS THE sha256 OF THE DUMP (.gsa) THAT YtmcgkokjcimckaaProg.lean LOADS. Nothing in Lean hashes anything: it is a label: what it is worth is what the hold of that sum in a sandbox is worth. -/
noncomputable def Try.pinned : Pinned := { name := "ytmcgkokjcimckaa", sum := "4095bee2be08c541c8dc1547c30a9245149076d3df1aeb9bda77c84f3c6328d9", checked := Try.checked }
namespace Rows
def none {H : Type} : Left H := { results := [], args := [] }

/-- 'laws.FnExactHexOf': WHATEVER THE INPUT: true; the input reads as it did. -/
def fnExactHexOfSpec : ChangeSpec := { name := "fnExactHexOf", fn := fun _ => fun
  | [d] => { results := [.lit (.bool true)], args := [d] }
  | _ => none }
def fnExactHexOfRow : OpenClaim := { program := "ytmcgkokjcimckaa", sum := "4095bee2be08c541c8dc1547c30a9245149076d3df1aeb9bda77c84f3c6328d9", func := "loop.example/g00072/laws.FnExactHexOf", spec := "fnExactHexOf", apart := false }
def FnExactHexOfSaid : Prop := fnExactHexOfRow.holds Try.pinned (OpenSpec.ofChange fnExactHexOfSpec)

/-- ITS FALSE NEIGHBOUR: 'it returns false'. Refute it at one input. -/
def fnExactHexOfWrong : ChangeSpec := { name := "fnExactHexOf", fn := fun _ => fun
  | [d] => { results := [.lit (.bool false)], args := [d] }
  | _ => none }
def FnExactHexOfWrongFalsely : Prop := fnExactHexOfRow.holds Try.pinned (OpenSpec.ofChange fnExactHexOfWrong)

/-- 'laws.FnExactJudgeNonces': WHATEVER THE INPUT: true; the input reads as it did. -/
def fnExactJudgeNoncesSpec : ChangeSpec := { name := "fnExactJudgeNonces", fn := fun _ => fun
  | [d] => { results := [.lit (.bool true)], args := [d] }
  | _ => none }
def fnExactJudgeNoncesRow : OpenClaim := { program := "ytmcgkokjcimckaa", sum := "4095bee2be08c541c8dc1547c30a9245149076d3df1aeb9bda77c84f3c6328d9", func := "loop.example/g00072/laws.FnExactJudgeNonces", spec := "fnExactJudgeNonces", apart := false }
def FnExactJudgeNoncesSaid : Prop := fnExactJudgeNoncesRow.holds Try.pinned (OpenSpec.ofChange fnExactJudgeNoncesSpec)

/-- ITS FALSE NEIGHBOUR: 'it returns false'. Refute it at one input. -/
def fnExactJudgeNoncesWrong : ChangeSpec := { name := "fnExactJudgeNonces", fn := fun _ => fun
  | [d] => { results := [.lit (.bool false)], args := [d] }
  | _ => none }
def FnExactJudgeNoncesWrongFalsely : Prop := fnExactJudgeNoncesRow.holds Try.pinned (OpenSpec.ofChange fnExactJudgeNoncesWrong)

/-- 'laws.FnExactJudgeFuses': WHATEVER THE INPUT: true; the input reads as it did. -/
def fnExactJudgeFusesSpec : ChangeSpec := { name := "fnExactJudgeFuses", fn := fun _ => fun
  | [d] => { results := [.lit (.bool true)], args := [d] }
  | _ => none }
def fnExactJudgeFusesRow : OpenClaim := { program := "ytmcgkokjcimckaa", sum := "4095bee2be08c541c8dc1547c30a9245149076d3df1aeb9bda77c84f3c6328d9", func := "loop.example/g00072/laws.FnExactJudgeFuses", spec := "fnExactJudgeFuses", apart := false }
def FnExactJudgeFusesSaid : Prop := fnExactJudgeFusesRow.holds Try.pinned (OpenSpec.ofChange fnExactJudgeFusesSpec)

/-- ITS FALSE NEIGHBOUR: 'it returns false'. Refute it at one input. -/
def fnExactJudgeFusesWrong : ChangeSpec := { name := "fnExactJudgeFuses", fn := fun _ => fun
  | [d] => { results := [.lit (.bool false)], args := [d] }
  | _ => none }
def FnExactJudgeFusesWrongFalsely : Prop := fnExactJudgeFusesRow.holds Try.pinned (OpenSpec.ofChange fnExactJudgeFusesWrong)

/-- 'laws.FnExactJudgeTally': WHATEVER THE INPUT: true; the input reads as it did. -/
def fnExactJudgeTallySpec : ChangeSpec := { name := "fnExactJudgeTally", fn := fun _ => fun
  | [d1, d2] => { results := [.lit (.bool true)], args := [d1, d2] }
  | _ => none }
def fnExactJudgeTallyRow : OpenClaim := { program := "ytmcgkokjcimckaa", sum := "4095bee2be08c541c8dc1547c30a9245149076d3df1aeb9bda77c84f3c6328d9", func := "loop.example/g00072/laws.FnExactJudgeTally", spec := "fnExactJudgeTally", apart := false }
def FnExactJudgeTallySaid : Prop := fnExactJudgeTallyRow.holds Try.pinned (OpenSpec.ofChange fnExactJudgeTallySpec)

/-- ITS FALSE NEIGHBOUR: 'it returns false'. Refute it at one input. -/
def fnExactJudgeTallyWrong : ChangeSpec := { name := "fnExactJudgeTally", fn := fun _ => fun
  | [d1, d2] => { results := [.lit (.bool false)], args := [d1, d2] }
  | _ => none }
def FnExactJudgeTallyWrongFalsely : Prop := fnExactJudgeTallyRow.holds Try.pinned (OpenSpec.ofChange fnExactJudgeTallyWrong)

/-- 'laws.FnExactTellsOf': WHATEVER THE INPUT: true; the input reads as it did. -/
def fnExactTellsOfSpec : ChangeSpec := { name := "fnExactTellsOf", fn := fun _ => fun
  | [d1, d2] => { results := [.lit (.bool true)], args := [d1, d2] }
  | _ => none }
def fnExactTellsOfRow : OpenClaim := { program := "ytmcgkokjcimckaa", sum := "4095bee2be08c541c8dc1547c30a9245149076d3df1aeb9bda77c84f3c6328d9", func := "loop.example/g00072/laws.FnExactTellsOf", spec := "fnExactTellsOf", apart := false }
def FnExactTellsOfSaid : Prop := fnExactTellsOfRow.holds Try.pinned (OpenSpec.ofChange fnExactTellsOfSpec)

/-- ITS FALSE NEIGHBOUR: 'it returns false'. Refute it at one input. -/
def fnExactTellsOfWrong : ChangeSpec := { name := "fnExactTellsOf", fn := fun _ => fun
  | [d1, d2] => { results := [.lit (.bool false)], args := [d1, d2] }
  | _ => none }
def FnExactTellsOfWrongFalsely : Prop := fnExactTellsOfRow.holds Try.pinned (OpenSpec.ofChange fnExactTellsOfWrong)

/-- 'laws.FnExactNetDrop': WHATEVER THE INPUT: true; the input reads as it did. -/
def fnExactNetDropSpec : ChangeSpec := { name := "fnExactNetDrop", fn := fun _ => fun
  | [d1, d2] => { results := [.lit (.bool true)], args := [d1, d2] }
  | _ => none }
def fnExactNetDropRow : OpenClaim := { program := "ytmcgkokjcimckaa", sum := "4095bee2be08c541c8dc1547c30a9245149076d3df1aeb9bda77c84f3c6328d9", func := "loop.example/g00072/laws.FnExactNetDrop", spec := "fnExactNetDrop", apart := false }
def FnExactNetDropSaid : Prop := fnExactNetDropRow.holds Try.pinned (OpenSpec.ofChange fnExactNetDropSpec)

/-- ITS FALSE NEIGHBOUR: 'it returns false'. Refute it at one input. -/
def fnExactNetDropWrong : ChangeSpec := { name := "fnExactNetDrop", fn := fun _ => fun
  | [d1, d2] => { results := [.lit (.bool false)], args := [d1, d2] }
  | _ => none }
def FnExactNetDropWrongFalsely : Prop := fnExactNetDropRow.holds Try.pinned (OpenSpec.ofChange fnExactNetDropWrong)

/-- 'laws.FnExactNetTake': WHATEVER THE INPUT: true; the input reads as it did. -/
def fnExactNetTakeSpec : ChangeSpec := { name := "fnExactNetTake", fn := fun _ => fun
  | [d1, d2] => { results := [.lit (.bool true)], args := [d1, d2] }
  | _ => none }
def fnExactNetTakeRow : OpenClaim := { program := "ytmcgkokjcimckaa", sum := "4095bee2be08c541c8dc1547c30a9245149076d3df1aeb9bda77c84f3c6328d9", func := "loop.example/g00072/laws.FnExactNetTake", spec := "fnExactNetTake", apart := false }
def FnExactNetTakeSaid : Prop := fnExactNetTakeRow.holds Try.pinned (OpenSpec.ofChange fnExactNetTakeSpec)

/-- ITS FALSE NEIGHBOUR: 'it returns false'. Refute it at one input. -/
def fnExactNetTakeWrong : ChangeSpec := { name := "fnExactNetTake", fn := fun _ => fun
  | [d1, d2] => { results := [.lit (.bool false)], args := [d1, d2] }
  | _ => none }
def FnExactNetTakeWrongFalsely : Prop := fnExactNetTakeRow.holds Try.pinned (OpenSpec.ofChange fnExactNetTakeWrong)

/-- 'laws.FnExactJudgeReads': WHATEVER THE INPUT: true; the input reads as it did. -/
def fnExactJudgeReadsSpec : ChangeSpec := { name := "fnExactJudgeReads", fn := fun _ => fun
  | [d] => { results := [.lit (.bool true)], args := [d] }
  | _ => none }
def fnExactJudgeReadsRow : OpenClaim := { program := "ytmcgkokjcimckaa", sum := "4095bee2be08c541c8dc1547c30a9245149076d3df1aeb9bda77c84f3c6328d9", func := "loop.example/g00072/laws.FnExactJudgeReads", spec := "fnExactJudgeReads", apart := false }
def FnExactJudgeReadsSaid : Prop := fnExactJudgeReadsRow.holds Try.pinned (OpenSpec.ofChange fnExactJudgeReadsSpec)

/-- ITS FALSE NEIGHBOUR: 'it returns false'. Refute it at one input. -/
def fnExactJudgeReadsWrong : ChangeSpec := { name := "fnExactJudgeReads", fn := fun _ => fun
  | [d] => { results := [.lit (.bool false)], args := [d] }
  | _ => none }
def FnExactJudgeReadsWrongFalsely : Prop := fnExactJudgeReadsRow.holds Try.pinned (OpenSpec.ofChange fnExactJudgeReadsWrong)

/-- 'laws.FnExactNetDouble': WHATEVER THE INPUT: true; the input reads as it did. -/
def fnExactNetDoubleSpec : ChangeSpec := { name := "fnExactNetDouble", fn := fun _ => fun
  | [d1, d2] => { results := [.lit (.bool true)], args := [d1, d2] }
  | _ => none }
def fnExactNetDoubleRow : OpenClaim := { program := "ytmcgkokjcimckaa", sum := "4095bee2be08c541c8dc1547c30a9245149076d3df1aeb9bda77c84f3c6328d9", func := "loop.example/g00072/laws.FnExactNetDouble", spec := "fnExactNetDouble", apart := false }
def FnExactNetDoubleSaid : Prop := fnExactNetDoubleRow.holds Try.pinned (OpenSpec.ofChange fnExactNetDoubleSpec)

/-- ITS FALSE NEIGHBOUR: 'it returns false'. Refute it at one input. -/
def fnExactNetDoubleWrong : ChangeSpec := { name := "fnExactNetDouble", fn := fun _ => fun
  | [d1, d2] => { results := [.lit (.bool false)], args := [d1, d2] }
  | _ => none }
def FnExactNetDoubleWrongFalsely : Prop := fnExactNetDoubleRow.holds Try.pinned (OpenSpec.ofChange fnExactNetDoubleWrong)

/- THE SECOND FORM. 'bulk': how many values and letters a reading holds, each counted each time it is reached (what is shared counts as often as it is met; a slice's spare places count too). A statement '..UptoSaid' is the law's where the arguments, and the package variables that the reading takes, are together of bulk at most 1048576: NARROWER than '..Said'. Prove '..Said' where nothing that the law and all that it calls make is longer than what came in: it says more and counts as full. Else prove '..UptoSaid'. A law counts once. -/
mutual
def uptoBulk {H : Type} : DataW H → Nat
  | .lit (.string bytes) => bytes.length + 1
  | .lit _ => 1
  | .nil => 1
  | .ptr d => uptoBulk d + 1
  | .slice elems spare => uptoBulkAll elems + uptoBulkAll spare + 1
  | .agg parts => uptoBulkAll parts + 1
  | .iface _ d => uptoBulk d + 1
  | .map entries => uptoBulkEntries entries + 1
  | .held _ => 1
def uptoBulkAll {H : Type} : List (DataW H) → Nat
  | [] => 0
  | d :: r => uptoBulk d + uptoBulkAll r
def uptoBulkEntries {H : Type} : List (Lit × DataW H) → Nat
  | [] => 0
  | x :: r => uptoBulkEntry x + uptoBulkEntries r
def uptoBulkEntry {H : Type} : Lit × DataW H → Nat
  | (.string bytes, d) => bytes.length + uptoBulk d + 1
  | (_, d) => uptoBulk d + 1
 end
def uptoSmall : (H : Type) → List (DataW H) → Bool := fun _ ds => decide (uptoBulkAll ds ≤ 1048576)
def OpenSpec.upto (s : _root_.Go.ChangeSpec) : _root_.Go.OpenSpec := { _root_.Go.OpenSpec.ofChange s with cond := some uptoSmall }

/-- 'laws.FnExactHexOf', WHERE WHAT IT READS IS OF BULK AT MOST 1048576: true; the input reads as it did. -/
def fnExactHexOfUptoRow : OpenClaim := { program := "ytmcgkokjcimckaa", sum := "4095bee2be08c541c8dc1547c30a9245149076d3df1aeb9bda77c84f3c6328d9", func := "loop.example/g00072/laws.FnExactHexOf", spec := "fnExactHexOf", apart := false, narrowed := true }
def FnExactHexOfUptoSaid : Prop := fnExactHexOfUptoRow.holds Try.pinned (OpenSpec.upto fnExactHexOfSpec)

/-- 'laws.FnExactJudgeNonces', WHERE WHAT IT READS IS OF BULK AT MOST 1048576: true; the input reads as it did. -/
def fnExactJudgeNoncesUptoRow : OpenClaim := { program := "ytmcgkokjcimckaa", sum := "4095bee2be08c541c8dc1547c30a9245149076d3df1aeb9bda77c84f3c6328d9", func := "loop.example/g00072/laws.FnExactJudgeNonces", spec := "fnExactJudgeNonces", apart := false, narrowed := true }
def FnExactJudgeNoncesUptoSaid : Prop := fnExactJudgeNoncesUptoRow.holds Try.pinned (OpenSpec.upto fnExactJudgeNoncesSpec)

/-- 'laws.FnExactJudgeFuses', WHERE WHAT IT READS IS OF BULK AT MOST 1048576: true; the input reads as it did. -/
def fnExactJudgeFusesUptoRow : OpenClaim := { program := "ytmcgkokjcimckaa", sum := "4095bee2be08c541c8dc1547c30a9245149076d3df1aeb9bda77c84f3c6328d9", func := "loop.example/g00072/laws.FnExactJudgeFuses", spec := "fnExactJudgeFuses", apart := false, narrowed := true }
def FnExactJudgeFusesUptoSaid : Prop := fnExactJudgeFusesUptoRow.holds Try.pinned (OpenSpec.upto fnExactJudgeFusesSpec)

/-- 'laws.FnExactJudgeTally', WHERE WHAT IT READS IS OF BULK AT MOST 1048576: true; the input reads as it did. -/
def fnExactJudgeTallyUptoRow : OpenClaim := { program := "ytmcgkokjcimckaa", sum := "4095bee2be08c541c8dc1547c30a9245149076d3df1aeb9bda77c84f3c6328d9", func := "loop.example/g00072/laws.FnExactJudgeTally", spec := "fnExactJudgeTally", apart := false, narrowed := true }
def FnExactJudgeTallyUptoSaid : Prop := fnExactJudgeTallyUptoRow.holds Try.pinned (OpenSpec.upto fnExactJudgeTallySpec)

/-- 'laws.FnExactTellsOf', WHERE WHAT IT READS IS OF BULK AT MOST 1048576: true; the input reads as it did. -/
def fnExactTellsOfUptoRow : OpenClaim := { program := "ytmcgkokjcimckaa", sum := "4095bee2be08c541c8dc1547c30a9245149076d3df1aeb9bda77c84f3c6328d9", func := "loop.example/g00072/laws.FnExactTellsOf", spec := "fnExactTellsOf", apart := false, narrowed := true }
def FnExactTellsOfUptoSaid : Prop := fnExactTellsOfUptoRow.holds Try.pinned (OpenSpec.upto fnExactTellsOfSpec)

/-- 'laws.FnExactNetDrop', WHERE WHAT IT READS IS OF BULK AT MOST 1048576: true; the input reads as it did. -/
def fnExactNetDropUptoRow : OpenClaim := { program := "ytmcgkokjcimckaa", sum := "4095bee2be08c541c8dc1547c30a9245149076d3df1aeb9bda77c84f3c6328d9", func := "loop.example/g00072/laws.FnExactNetDrop", spec := "fnExactNetDrop", apart := false, narrowed := true }
def FnExactNetDropUptoSaid : Prop := fnExactNetDropUptoRow.holds Try.pinned (OpenSpec.upto fnExactNetDropSpec)

/-- 'laws.FnExactNetTake', WHERE WHAT IT READS IS OF BULK AT MOST 1048576: true; the input reads as it did. -/
def fnExactNetTakeUptoRow : OpenClaim := { program := "ytmcgkokjcimckaa", sum := "4095bee2be08c541c8dc1547c30a9245149076d3df1aeb9bda77c84f3c6328d9", func := "loop.example/g00072/laws.FnExactNetTake", spec := "fnExactNetTake", apart := false, narrowed := true }
def FnExactNetTakeUptoSaid : Prop := fnExactNetTakeUptoRow.holds Try.pinned (OpenSpec.upto fnExactNetTakeSpec)

/-- 'laws.FnExactJudgeReads', WHERE WHAT IT READS IS OF BULK AT MOST 1048576: true; the input reads as it did. -/
def fnExactJudgeReadsUptoRow : OpenClaim := { program := "ytmcgkokjcimckaa", sum := "4095bee2be08c541c8dc1547c30a9245149076d3df1aeb9bda77c84f3c6328d9", func := "loop.example/g00072/laws.FnExactJudgeReads", spec := "fnExactJudgeReads", apart := false, narrowed := true }
def FnExactJudgeReadsUptoSaid : Prop := fnExactJudgeReadsUptoRow.holds Try.pinned (OpenSpec.upto fnExactJudgeReadsSpec)

/-- 'laws.FnExactNetDouble', WHERE WHAT IT READS IS OF BULK AT MOST 1048576: true; the input reads as it did. -/
def fnExactNetDoubleUptoRow : OpenClaim := { program := "ytmcgkokjcimckaa", sum := "4095bee2be08c541c8dc1547c30a9245149076d3df1aeb9bda77c84f3c6328d9", func := "loop.example/g00072/laws.FnExactNetDouble", spec := "fnExactNetDouble", apart := false, narrowed := true }
def FnExactNetDoubleUptoSaid : Prop := fnExactNetDoubleUptoRow.holds Try.pinned (OpenSpec.upto fnExactNetDoubleSpec)

end Rows
end Go.Proofs.Ytmcgkokjcimckaa
