/-
  No cell of these rows narrows 'for every input' (looked for: loops, veiled, ifaces, maps, wideKeys, modest, calm, conditions, laid).
  DERIVED. THE GIVEN ROWS OF THIS SEAT. 15 by the template 'for every input the law returns true; each argument reads behind the call as it read before'; 0 by the template 'total and deterministic' (their statements: YtlnonadkdonhmaaTotals.lean).
  GIVEN WITH THE SEED: the statements are not yours to turn. If you find one false, say at which input.
  Laid BY PROGRAM, IN A SANDBOX (cutbox-rows.mjs): the forced cells as the released guide's own fill.sh prints them over the translation 412b50e570b6315e… (all of the seat's roots in one cut). By AI agents, Wed Nov 11 2026. No macro, syntax, notation, axiom, sorry.
-/
import Derived.Test.YtlnonadkdonhmaaChecked
import GoSem.Claim
import GoSem.ClaimJoined
import GoSem.ClaimMapViews
import Derived.JoinedTies
import Derived.KernelRfl
namespace Go.Proofs.Ytlnonadkdonhmaa
/- THE CELL 'sum', in the pinned program and in every row, IS THE sha256 OF THE DUMP (.gsa) THAT YtlnonadkdonhmaaProg.lean LOADS. Nothing in Lean hashes anything: it is a label: what it is worth is what the hold of that sum in a sandbox is worth. -/
noncomputable def Try.pinned : Pinned := { name := "ytlnonadkdonhmaa", sum := "412b50e570b6315eed6c7902473f55f313b96a1ae72b22dcef85c668d61c1edc", checked := Try.checked }
namespace Rows
def none {H : Type} : Left H := { results := [], args := [] }

/-- 'cabotagelaw08.AutoMachines': WHATEVER THE INPUT: true; the input reads as it did. -/
def autoMachinesSpec : ChangeSpec := { name := "autoMachines", fn := fun _ => fun
  | [d1, d2] => { results := [.lit (.bool true)], args := [d1, d2] }
  | _ => none }
def autoMachinesRow : OpenClaim := { program := "ytlnonadkdonhmaa", sum := "412b50e570b6315eed6c7902473f55f313b96a1ae72b22dcef85c668d61c1edc", func := "cabotage/cabotagelaw08.AutoMachines", spec := "autoMachines", unfollowed := true, recurses := true, plainKeys := false, apart := false }
def AutoMachinesSaid : Prop := autoMachinesRow.holds Try.pinned (OpenSpec.ofChange autoMachinesSpec)

/-- ITS FALSE NEIGHBOUR: 'it returns false'. Refute it at one input. -/
def autoMachinesWrong : ChangeSpec := { name := "autoMachines", fn := fun _ => fun
  | [d1, d2] => { results := [.lit (.bool false)], args := [d1, d2] }
  | _ => none }
def AutoMachinesWrongFalsely : Prop := autoMachinesRow.holds Try.pinned (OpenSpec.ofChange autoMachinesWrong)

/-- 'cabotagelaw08.AutoGoes': WHATEVER THE INPUT: true; the input reads as it did. -/
def autoGoesSpec : ChangeSpec := { name := "autoGoes", fn := fun _ => fun
  | [d1, d2, d3, d4] => { results := [.lit (.bool true)], args := [d1, d2, d3, d4] }
  | _ => none }
def autoGoesRow : OpenClaim := { program := "ytlnonadkdonhmaa", sum := "412b50e570b6315eed6c7902473f55f313b96a1ae72b22dcef85c668d61c1edc", func := "cabotage/cabotagelaw08.AutoGoes", spec := "autoGoes", unfollowed := true, recurses := true, plainKeys := false, apart := false }
def AutoGoesSaid : Prop := autoGoesRow.holds Try.pinned (OpenSpec.ofChange autoGoesSpec)

/-- ITS FALSE NEIGHBOUR: 'it returns false'. Refute it at one input. -/
def autoGoesWrong : ChangeSpec := { name := "autoGoes", fn := fun _ => fun
  | [d1, d2, d3, d4] => { results := [.lit (.bool false)], args := [d1, d2, d3, d4] }
  | _ => none }
def AutoGoesWrongFalsely : Prop := autoGoesRow.holds Try.pinned (OpenSpec.ofChange autoGoesWrong)

/-- 'cabotagelaw08.AutoAparts': WHATEVER THE INPUT: true; the input reads as it did. -/
def autoApartsSpec : ChangeSpec := { name := "autoAparts", fn := fun _ => fun
  | [d1, d2, d3, d4] => { results := [.lit (.bool true)], args := [d1, d2, d3, d4] }
  | _ => none }
def autoApartsRow : OpenClaim := { program := "ytlnonadkdonhmaa", sum := "412b50e570b6315eed6c7902473f55f313b96a1ae72b22dcef85c668d61c1edc", func := "cabotage/cabotagelaw08.AutoAparts", spec := "autoAparts", unfollowed := true, recurses := true, plainKeys := false, apart := false }
def AutoApartsSaid : Prop := autoApartsRow.holds Try.pinned (OpenSpec.ofChange autoApartsSpec)

/-- ITS FALSE NEIGHBOUR: 'it returns false'. Refute it at one input. -/
def autoApartsWrong : ChangeSpec := { name := "autoAparts", fn := fun _ => fun
  | [d1, d2, d3, d4] => { results := [.lit (.bool false)], args := [d1, d2, d3, d4] }
  | _ => none }
def AutoApartsWrongFalsely : Prop := autoApartsRow.holds Try.pinned (OpenSpec.ofChange autoApartsWrong)

/-- 'cabotagelaw08.AutoFairs': WHATEVER THE INPUT: true; the input reads as it did. -/
def autoFairsSpec : ChangeSpec := { name := "autoFairs", fn := fun _ => fun
  | [d1, d2] => { results := [.lit (.bool true)], args := [d1, d2] }
  | _ => none }
def autoFairsRow : OpenClaim := { program := "ytlnonadkdonhmaa", sum := "412b50e570b6315eed6c7902473f55f313b96a1ae72b22dcef85c668d61c1edc", func := "cabotage/cabotagelaw08.AutoFairs", spec := "autoFairs", unfollowed := true, recurses := true, plainKeys := false, apart := false }
def AutoFairsSaid : Prop := autoFairsRow.holds Try.pinned (OpenSpec.ofChange autoFairsSpec)

/-- ITS FALSE NEIGHBOUR: 'it returns false'. Refute it at one input. -/
def autoFairsWrong : ChangeSpec := { name := "autoFairs", fn := fun _ => fun
  | [d1, d2] => { results := [.lit (.bool false)], args := [d1, d2] }
  | _ => none }
def AutoFairsWrongFalsely : Prop := autoFairsRow.holds Try.pinned (OpenSpec.ofChange autoFairsWrong)

/-- 'cabotagelaw08.AutoTurns': WHATEVER THE INPUT: true; the input reads as it did. -/
def autoTurnsSpec : ChangeSpec := { name := "autoTurns", fn := fun _ => fun
  | [d1, d2] => { results := [.lit (.bool true)], args := [d1, d2] }
  | _ => none }
def autoTurnsRow : OpenClaim := { program := "ytlnonadkdonhmaa", sum := "412b50e570b6315eed6c7902473f55f313b96a1ae72b22dcef85c668d61c1edc", func := "cabotage/cabotagelaw08.AutoTurns", spec := "autoTurns", unfollowed := true, recurses := true, plainKeys := false, apart := false }
def AutoTurnsSaid : Prop := autoTurnsRow.holds Try.pinned (OpenSpec.ofChange autoTurnsSpec)

/-- ITS FALSE NEIGHBOUR: 'it returns false'. Refute it at one input. -/
def autoTurnsWrong : ChangeSpec := { name := "autoTurns", fn := fun _ => fun
  | [d1, d2] => { results := [.lit (.bool false)], args := [d1, d2] }
  | _ => none }
def AutoTurnsWrongFalsely : Prop := autoTurnsRow.holds Try.pinned (OpenSpec.ofChange autoTurnsWrong)

/-- 'cabotagelaw08.AutoShort': WHATEVER THE INPUT: true; the input reads as it did. -/
def autoShortSpec : ChangeSpec := { name := "autoShort", fn := fun _ => fun
  | [d1, d2, d3, d4, d5] => { results := [.lit (.bool true)], args := [d1, d2, d3, d4, d5] }
  | _ => none }
def autoShortRow : OpenClaim := { program := "ytlnonadkdonhmaa", sum := "412b50e570b6315eed6c7902473f55f313b96a1ae72b22dcef85c668d61c1edc", func := "cabotage/cabotagelaw08.AutoShort", spec := "autoShort", unfollowed := true, recurses := true, plainKeys := false, apart := false }
def AutoShortSaid : Prop := autoShortRow.holds Try.pinned (OpenSpec.ofChange autoShortSpec)

/-- ITS FALSE NEIGHBOUR: 'it returns false'. Refute it at one input. -/
def autoShortWrong : ChangeSpec := { name := "autoShort", fn := fun _ => fun
  | [d1, d2, d3, d4, d5] => { results := [.lit (.bool false)], args := [d1, d2, d3, d4, d5] }
  | _ => none }
def AutoShortWrongFalsely : Prop := autoShortRow.holds Try.pinned (OpenSpec.ofChange autoShortWrong)

/-- 'cabotagelaw08.AutoKnown': WHATEVER THE INPUT: true; the input reads as it did. -/
def autoKnownSpec : ChangeSpec := { name := "autoKnown", fn := fun _ => fun
  | [] => { results := [.lit (.bool true)], args := [] }
  | _ => none }
def autoKnownRow : OpenClaim := { program := "ytlnonadkdonhmaa", sum := "412b50e570b6315eed6c7902473f55f313b96a1ae72b22dcef85c668d61c1edc", func := "cabotage/cabotagelaw08.AutoKnown", spec := "autoKnown", unfollowed := true, recurses := true, plainKeys := false, apart := false }
def AutoKnownSaid : Prop := autoKnownRow.holds Try.pinned (OpenSpec.ofChange autoKnownSpec)

/-- ITS FALSE NEIGHBOUR: 'it returns false'. Refute it at one input. -/
def autoKnownWrong : ChangeSpec := { name := "autoKnown", fn := fun _ => fun
  | [] => { results := [.lit (.bool false)], args := [] }
  | _ => none }
def AutoKnownWrongFalsely : Prop := autoKnownRow.holds Try.pinned (OpenSpec.ofChange autoKnownWrong)

/-- 'cabotagelaw08.AutoChooses': WHATEVER THE INPUT: true; the input reads as it did. -/
def autoChoosesSpec : ChangeSpec := { name := "autoChooses", fn := fun _ => fun
  | [d1, d2, d3] => { results := [.lit (.bool true)], args := [d1, d2, d3] }
  | _ => none }
def autoChoosesRow : OpenClaim := { program := "ytlnonadkdonhmaa", sum := "412b50e570b6315eed6c7902473f55f313b96a1ae72b22dcef85c668d61c1edc", func := "cabotage/cabotagelaw08.AutoChooses", spec := "autoChooses", unfollowed := true, recurses := true, plainKeys := false, apart := false }
def AutoChoosesSaid : Prop := autoChoosesRow.holds Try.pinned (OpenSpec.ofChange autoChoosesSpec)

/-- ITS FALSE NEIGHBOUR: 'it returns false'. Refute it at one input. -/
def autoChoosesWrong : ChangeSpec := { name := "autoChooses", fn := fun _ => fun
  | [d1, d2, d3] => { results := [.lit (.bool false)], args := [d1, d2, d3] }
  | _ => none }
def AutoChoosesWrongFalsely : Prop := autoChoosesRow.holds Try.pinned (OpenSpec.ofChange autoChoosesWrong)

/-- 'cabotagelaw08.AutoReadies': WHATEVER THE INPUT: true; the input reads as it did. -/
def autoReadiesSpec : ChangeSpec := { name := "autoReadies", fn := fun _ => fun
  | [d1, d2] => { results := [.lit (.bool true)], args := [d1, d2] }
  | _ => none }
def autoReadiesRow : OpenClaim := { program := "ytlnonadkdonhmaa", sum := "412b50e570b6315eed6c7902473f55f313b96a1ae72b22dcef85c668d61c1edc", func := "cabotage/cabotagelaw08.AutoReadies", spec := "autoReadies", unfollowed := true, recurses := true, plainKeys := false, apart := false }
def AutoReadiesSaid : Prop := autoReadiesRow.holds Try.pinned (OpenSpec.ofChange autoReadiesSpec)

/-- ITS FALSE NEIGHBOUR: 'it returns false'. Refute it at one input. -/
def autoReadiesWrong : ChangeSpec := { name := "autoReadies", fn := fun _ => fun
  | [d1, d2] => { results := [.lit (.bool false)], args := [d1, d2] }
  | _ => none }
def AutoReadiesWrongFalsely : Prop := autoReadiesRow.holds Try.pinned (OpenSpec.ofChange autoReadiesWrong)

/-- 'cabotagelaw08.AutoRuns': WHATEVER THE INPUT: true; the input reads as it did. -/
def autoRunsSpec : ChangeSpec := { name := "autoRuns", fn := fun _ => fun
  | [d1, d2, d3, d4] => { results := [.lit (.bool true)], args := [d1, d2, d3, d4] }
  | _ => none }
def autoRunsRow : OpenClaim := { program := "ytlnonadkdonhmaa", sum := "412b50e570b6315eed6c7902473f55f313b96a1ae72b22dcef85c668d61c1edc", func := "cabotage/cabotagelaw08.AutoRuns", spec := "autoRuns", unfollowed := true, recurses := true, plainKeys := false, apart := false }
def AutoRunsSaid : Prop := autoRunsRow.holds Try.pinned (OpenSpec.ofChange autoRunsSpec)

/-- ITS FALSE NEIGHBOUR: 'it returns false'. Refute it at one input. -/
def autoRunsWrong : ChangeSpec := { name := "autoRuns", fn := fun _ => fun
  | [d1, d2, d3, d4] => { results := [.lit (.bool false)], args := [d1, d2, d3, d4] }
  | _ => none }
def AutoRunsWrongFalsely : Prop := autoRunsRow.holds Try.pinned (OpenSpec.ofChange autoRunsWrong)

/-- 'cabotagelaw08.AutoTrees': WHATEVER THE INPUT: true; the input reads as it did. -/
def autoTreesSpec : ChangeSpec := { name := "autoTrees", fn := fun _ => fun
  | [d1, d2, d3, d4, d5, d6] => { results := [.lit (.bool true)], args := [d1, d2, d3, d4, d5, d6] }
  | _ => none }
def autoTreesRow : OpenClaim := { program := "ytlnonadkdonhmaa", sum := "412b50e570b6315eed6c7902473f55f313b96a1ae72b22dcef85c668d61c1edc", func := "cabotage/cabotagelaw08.AutoTrees", spec := "autoTrees", unfollowed := true, recurses := true, plainKeys := false, apart := false }
def AutoTreesSaid : Prop := autoTreesRow.holds Try.pinned (OpenSpec.ofChange autoTreesSpec)

/-- ITS FALSE NEIGHBOUR: 'it returns false'. Refute it at one input. -/
def autoTreesWrong : ChangeSpec := { name := "autoTrees", fn := fun _ => fun
  | [d1, d2, d3, d4, d5, d6] => { results := [.lit (.bool false)], args := [d1, d2, d3, d4, d5, d6] }
  | _ => none }
def AutoTreesWrongFalsely : Prop := autoTreesRow.holds Try.pinned (OpenSpec.ofChange autoTreesWrong)

/-- 'cabotagelaw08.AutoDecides': WHATEVER THE INPUT: true; the input reads as it did. -/
def autoDecidesSpec : ChangeSpec := { name := "autoDecides", fn := fun _ => fun
  | [d1, d2, d3, d4, d5] => { results := [.lit (.bool true)], args := [d1, d2, d3, d4, d5] }
  | _ => none }
def autoDecidesRow : OpenClaim := { program := "ytlnonadkdonhmaa", sum := "412b50e570b6315eed6c7902473f55f313b96a1ae72b22dcef85c668d61c1edc", func := "cabotage/cabotagelaw08.AutoDecides", spec := "autoDecides", unfollowed := true, recurses := true, plainKeys := false, apart := false }
def AutoDecidesSaid : Prop := autoDecidesRow.holds Try.pinned (OpenSpec.ofChange autoDecidesSpec)

/-- ITS FALSE NEIGHBOUR: 'it returns false'. Refute it at one input. -/
def autoDecidesWrong : ChangeSpec := { name := "autoDecides", fn := fun _ => fun
  | [d1, d2, d3, d4, d5] => { results := [.lit (.bool false)], args := [d1, d2, d3, d4, d5] }
  | _ => none }
def AutoDecidesWrongFalsely : Prop := autoDecidesRow.holds Try.pinned (OpenSpec.ofChange autoDecidesWrong)

/-- 'cabotagelaw08.AutoLeasts': WHATEVER THE INPUT: true; the input reads as it did. -/
def autoLeastsSpec : ChangeSpec := { name := "autoLeasts", fn := fun _ => fun
  | [d1, d2] => { results := [.lit (.bool true)], args := [d1, d2] }
  | _ => none }
def autoLeastsRow : OpenClaim := { program := "ytlnonadkdonhmaa", sum := "412b50e570b6315eed6c7902473f55f313b96a1ae72b22dcef85c668d61c1edc", func := "cabotage/cabotagelaw08.AutoLeasts", spec := "autoLeasts", unfollowed := true, recurses := true, plainKeys := false, apart := false }
def AutoLeastsSaid : Prop := autoLeastsRow.holds Try.pinned (OpenSpec.ofChange autoLeastsSpec)

/-- ITS FALSE NEIGHBOUR: 'it returns false'. Refute it at one input. -/
def autoLeastsWrong : ChangeSpec := { name := "autoLeasts", fn := fun _ => fun
  | [d1, d2] => { results := [.lit (.bool false)], args := [d1, d2] }
  | _ => none }
def AutoLeastsWrongFalsely : Prop := autoLeastsRow.holds Try.pinned (OpenSpec.ofChange autoLeastsWrong)

/-- 'cabotagelaw08.AutoSmall': WHATEVER THE INPUT: true; the input reads as it did. -/
def autoSmallSpec : ChangeSpec := { name := "autoSmall", fn := fun _ => fun
  | [d1, d2, d3, d4] => { results := [.lit (.bool true)], args := [d1, d2, d3, d4] }
  | _ => none }
def autoSmallRow : OpenClaim := { program := "ytlnonadkdonhmaa", sum := "412b50e570b6315eed6c7902473f55f313b96a1ae72b22dcef85c668d61c1edc", func := "cabotage/cabotagelaw08.AutoSmall", spec := "autoSmall", unfollowed := true, recurses := true, plainKeys := false, apart := false }
def AutoSmallSaid : Prop := autoSmallRow.holds Try.pinned (OpenSpec.ofChange autoSmallSpec)

/-- ITS FALSE NEIGHBOUR: 'it returns false'. Refute it at one input. -/
def autoSmallWrong : ChangeSpec := { name := "autoSmall", fn := fun _ => fun
  | [d1, d2, d3, d4] => { results := [.lit (.bool false)], args := [d1, d2, d3, d4] }
  | _ => none }
def AutoSmallWrongFalsely : Prop := autoSmallRow.holds Try.pinned (OpenSpec.ofChange autoSmallWrong)

/-- 'cabotagelaw08.AutoMatches': WHATEVER THE INPUT: true; the input reads as it did. -/
def autoMatchesSpec : ChangeSpec := { name := "autoMatches", fn := fun _ => fun
  | [d1, d2] => { results := [.lit (.bool true)], args := [d1, d2] }
  | _ => none }
def autoMatchesRow : OpenClaim := { program := "ytlnonadkdonhmaa", sum := "412b50e570b6315eed6c7902473f55f313b96a1ae72b22dcef85c668d61c1edc", func := "cabotage/cabotagelaw08.AutoMatches", spec := "autoMatches", unfollowed := true, recurses := true, plainKeys := false, apart := false }
def AutoMatchesSaid : Prop := autoMatchesRow.holds Try.pinned (OpenSpec.ofChange autoMatchesSpec)

/-- ITS FALSE NEIGHBOUR: 'it returns false'. Refute it at one input. -/
def autoMatchesWrong : ChangeSpec := { name := "autoMatches", fn := fun _ => fun
  | [d1, d2] => { results := [.lit (.bool false)], args := [d1, d2] }
  | _ => none }
def AutoMatchesWrongFalsely : Prop := autoMatchesRow.holds Try.pinned (OpenSpec.ofChange autoMatchesWrong)

/- THE SECOND FORM. 'bulk': how many values and letters a reading holds, each counted each time it is reached (what is shared counts as often as it is met; a slice's spare places count too). A statement '..UptoSaid' is the law's where the arguments, and the package variables that the reading takes, are together of bulk at most 1048576: NARROWER than '..Said'. Prove '..Said' where nothing that the law and all that it calls make is longer than what came in: it says more and counts as full. Else prove '..UptoSaid'. A law counts once. -/
mutual
def uptoBulk {H : Type} : DataW H → Nat
  | .lit (.string bytes) => bytes.length + 1
  | .lit _ => 1
  | .nil => 1
  | .ptr d => uptoBulk d + 1
  | .slice elems spare => uptoBulkAll elems + uptoBulkAll spare + 1
  | .agg parts => uptoBulkAll parts + 1
  | .iface _ d => uptoBulk d + 1
  | .map entries => uptoBulkEntries entries + 1
  | .held _ => 1
def uptoBulkAll {H : Type} : List (DataW H) → Nat
  | [] => 0
  | d :: r => uptoBulk d + uptoBulkAll r
def uptoBulkEntries {H : Type} : List (Lit × DataW H) → Nat
  | [] => 0
  | x :: r => uptoBulkEntry x + uptoBulkEntries r
def uptoBulkEntry {H : Type} : Lit × DataW H → Nat
  | (.string bytes, d) => bytes.length + uptoBulk d + 1
  | (_, d) => uptoBulk d + 1
 end
def uptoSmall : (H : Type) → List (DataW H) → Bool := fun _ ds => decide (uptoBulkAll ds ≤ 1048576)
def OpenSpec.upto (s : _root_.Go.ChangeSpec) : _root_.Go.OpenSpec := { _root_.Go.OpenSpec.ofChange s with cond := some uptoSmall }

/-- 'cabotagelaw08.AutoMachines', WHERE WHAT IT READS IS OF BULK AT MOST 1048576: true; the input reads as it did. -/
def autoMachinesUptoRow : OpenClaim := { program := "ytlnonadkdonhmaa", sum := "412b50e570b6315eed6c7902473f55f313b96a1ae72b22dcef85c668d61c1edc", func := "cabotage/cabotagelaw08.AutoMachines", spec := "autoMachines", unfollowed := true, recurses := true, plainKeys := false, apart := false, narrowed := true }
def AutoMachinesUptoSaid : Prop := autoMachinesUptoRow.holds Try.pinned (OpenSpec.upto autoMachinesSpec)

/-- 'cabotagelaw08.AutoGoes', WHERE WHAT IT READS IS OF BULK AT MOST 1048576: true; the input reads as it did. -/
def autoGoesUptoRow : OpenClaim := { program := "ytlnonadkdonhmaa", sum := "412b50e570b6315eed6c7902473f55f313b96a1ae72b22dcef85c668d61c1edc", func := "cabotage/cabotagelaw08.AutoGoes", spec := "autoGoes", unfollowed := true, recurses := true, plainKeys := false, apart := false, narrowed := true }
def AutoGoesUptoSaid : Prop := autoGoesUptoRow.holds Try.pinned (OpenSpec.upto autoGoesSpec)

/-- 'cabotagelaw08.AutoAparts', WHERE WHAT IT READS IS OF BULK AT MOST 1048576: true; the input reads as it did. -/
def autoApartsUptoRow : OpenClaim := { program := "ytlnonadkdonhmaa", sum := "412b50e570b6315eed6c7902473f55f313b96a1ae72b22dcef85c668d61c1edc", func := "cabotage/cabotagelaw08.AutoAparts", spec := "autoAparts", unfollowed := true, recurses := true, plainKeys := false, apart := false, narrowed := true }
def AutoApartsUptoSaid : Prop := autoApartsUptoRow.holds Try.pinned (OpenSpec.upto autoApartsSpec)

/-- 'cabotagelaw08.AutoFairs', WHERE WHAT IT READS IS OF BULK AT MOST 1048576: true; the input reads as it did. -/
def autoFairsUptoRow : OpenClaim := { program := "ytlnonadkdonhmaa", sum := "412b50e570b6315eed6c7902473f55f313b96a1ae72b22dcef85c668d61c1edc", func := "cabotage/cabotagelaw08.AutoFairs", spec := "autoFairs", unfollowed := true, recurses := true, plainKeys := false, apart := false, narrowed := true }
def AutoFairsUptoSaid : Prop := autoFairsUptoRow.holds Try.pinned (OpenSpec.upto autoFairsSpec)

/-- 'cabotagelaw08.AutoTurns', WHERE WHAT IT READS IS OF BULK AT MOST 1048576: true; the input reads as it did. -/
def autoTurnsUptoRow : OpenClaim := { program := "ytlnonadkdonhmaa", sum := "412b50e570b6315eed6c7902473f55f313b96a1ae72b22dcef85c668d61c1edc", func := "cabotage/cabotagelaw08.AutoTurns", spec := "autoTurns", unfollowed := true, recurses := true, plainKeys := false, apart := false, narrowed := true }
def AutoTurnsUptoSaid : Prop := autoTurnsUptoRow.holds Try.pinned (OpenSpec.upto autoTurnsSpec)

/-- 'cabotagelaw08.AutoShort', WHERE WHAT IT READS IS OF BULK AT MOST 1048576: true; the input reads as it did. -/
def autoShortUptoRow : OpenClaim := { program := "ytlnonadkdonhmaa", sum := "412b50e570b6315eed6c7902473f55f313b96a1ae72b22dcef85c668d61c1edc", func := "cabotage/cabotagelaw08.AutoShort", spec := "autoShort", unfollowed := true, recurses := true, plainKeys := false, apart := false, narrowed := true }
def AutoShortUptoSaid : Prop := autoShortUptoRow.holds Try.pinned (OpenSpec.upto autoShortSpec)

/-- 'cabotagelaw08.AutoKnown', WHERE WHAT IT READS IS OF BULK AT MOST 1048576: true; the input reads as it did. -/
def autoKnownUptoRow : OpenClaim := { program := "ytlnonadkdonhmaa", sum := "412b50e570b6315eed6c7902473f55f313b96a1ae72b22dcef85c668d61c1edc", func := "cabotage/cabotagelaw08.AutoKnown", spec := "autoKnown", unfollowed := true, recurses := true, plainKeys := false, apart := false, narrowed := true }
def AutoKnownUptoSaid : Prop := autoKnownUptoRow.holds Try.pinned (OpenSpec.upto autoKnownSpec)

/-- 'cabotagelaw08.AutoChooses', WHERE WHAT IT READS IS OF BULK AT MOST 1048576: true; the input reads as it did. -/
def autoChoosesUptoRow : OpenClaim := { program := "ytlnonadkdonhmaa", sum := "412b50e570b6315eed6c7902473f55f313b96a1ae72b22dcef85c668d61c1edc", func := "cabotage/cabotagelaw08.AutoChooses", spec := "autoChooses", unfollowed := true, recurses := true, plainKeys := false, apart := false, narrowed := true }
def AutoChoosesUptoSaid : Prop := autoChoosesUptoRow.holds Try.pinned (OpenSpec.upto autoChoosesSpec)

/-- 'cabotagelaw08.AutoReadies', WHERE WHAT IT READS IS OF BULK AT MOST 1048576: true; the input reads as it did. -/
def autoReadiesUptoRow : OpenClaim := { program := "ytlnonadkdonhmaa", sum := "412b50e570b6315eed6c7902473f55f313b96a1ae72b22dcef85c668d61c1edc", func := "cabotage/cabotagelaw08.AutoReadies", spec := "autoReadies", unfollowed := true, recurses := true, plainKeys := false, apart := false, narrowed := true }
def AutoReadiesUptoSaid : Prop := autoReadiesUptoRow.holds Try.pinned (OpenSpec.upto autoReadiesSpec)

/-- 'cabotagelaw08.AutoRuns', WHERE WHAT IT READS IS OF BULK AT MOST 1048576: true; the input reads as it did. -/
def autoRunsUptoRow : OpenClaim := { program := "ytlnonadkdonhmaa", sum := "412b50e570b6315eed6c7902473f55f313b96a1ae72b22dcef85c668d61c1edc", func := "cabotage/cabotagelaw08.AutoRuns", spec := "autoRuns", unfollowed := true, recurses := true, plainKeys := false, apart := false, narrowed := true }
def AutoRunsUptoSaid : Prop := autoRunsUptoRow.holds Try.pinned (OpenSpec.upto autoRunsSpec)

/-- 'cabotagelaw08.AutoTrees', WHERE WHAT IT READS IS OF BULK AT MOST 1048576: true; the input reads as it did. -/
def autoTreesUptoRow : OpenClaim := { program := "ytlnonadkdonhmaa", sum := "412b50e570b6315eed6c7902473f55f313b96a1ae72b22dcef85c668d61c1edc", func := "cabotage/cabotagelaw08.AutoTrees", spec := "autoTrees", unfollowed := true, recurses := true, plainKeys := false, apart := false, narrowed := true }
def AutoTreesUptoSaid : Prop := autoTreesUptoRow.holds Try.pinned (OpenSpec.upto autoTreesSpec)

/-- 'cabotagelaw08.AutoDecides', WHERE WHAT IT READS IS OF BULK AT MOST 1048576: true; the input reads as it did. -/
def autoDecidesUptoRow : OpenClaim := { program := "ytlnonadkdonhmaa", sum := "412b50e570b6315eed6c7902473f55f313b96a1ae72b22dcef85c668d61c1edc", func := "cabotage/cabotagelaw08.AutoDecides", spec := "autoDecides", unfollowed := true, recurses := true, plainKeys := false, apart := false, narrowed := true }
def AutoDecidesUptoSaid : Prop := autoDecidesUptoRow.holds Try.pinned (OpenSpec.upto autoDecidesSpec)

/-- 'cabotagelaw08.AutoLeasts', WHERE WHAT IT READS IS OF BULK AT MOST 1048576: true; the input reads as it did. -/
def autoLeastsUptoRow : OpenClaim := { program := "ytlnonadkdonhmaa", sum := "412b50e570b6315eed6c7902473f55f313b96a1ae72b22dcef85c668d61c1edc", func := "cabotage/cabotagelaw08.AutoLeasts", spec := "autoLeasts", unfollowed := true, recurses := true, plainKeys := false, apart := false, narrowed := true }
def AutoLeastsUptoSaid : Prop := autoLeastsUptoRow.holds Try.pinned (OpenSpec.upto autoLeastsSpec)

/-- 'cabotagelaw08.AutoSmall', WHERE WHAT IT READS IS OF BULK AT MOST 1048576: true; the input reads as it did. -/
def autoSmallUptoRow : OpenClaim := { program := "ytlnonadkdonhmaa", sum := "412b50e570b6315eed6c7902473f55f313b96a1ae72b22dcef85c668d61c1edc", func := "cabotage/cabotagelaw08.AutoSmall", spec := "autoSmall", unfollowed := true, recurses := true, plainKeys := false, apart := false, narrowed := true }
def AutoSmallUptoSaid : Prop := autoSmallUptoRow.holds Try.pinned (OpenSpec.upto autoSmallSpec)

/-- 'cabotagelaw08.AutoMatches', WHERE WHAT IT READS IS OF BULK AT MOST 1048576: true; the input reads as it did. -/
def autoMatchesUptoRow : OpenClaim := { program := "ytlnonadkdonhmaa", sum := "412b50e570b6315eed6c7902473f55f313b96a1ae72b22dcef85c668d61c1edc", func := "cabotage/cabotagelaw08.AutoMatches", spec := "autoMatches", unfollowed := true, recurses := true, plainKeys := false, apart := false, narrowed := true }
def AutoMatchesUptoSaid : Prop := autoMatchesUptoRow.holds Try.pinned (OpenSpec.upto autoMatchesSpec)

end Rows
end Go.Proofs.Ytlnonadkdonhmaa
