/-
  No cell of these rows narrows 'for every input' (looked for: loops, veiled, ifaces, maps, wideKeys, modest, calm, conditions, laid).
  DERIVED. THE GIVEN ROWS OF THIS SEAT. 4 by the template 'for every input the law returns true; each argument reads behind the call as it read before'; 0 by the template 'total and deterministic' (their statements: YtggfdkkhlokmlacTotals.lean).
  GIVEN WITH THE SEED: the statements are not yours to turn. If you find one false, say at which input.
  Laid BY PROGRAM, IN A SANDBOX (cutbox-rows.mjs): the forced cells as the released guide's own fill.sh prints them over the translation 27ef1e7edf303708… (all of the seat's roots in one cut). By AI agents, Wed Nov 11 2026. No macro, syntax, notation, axiom, sorry.
-/
import Derived.Test.YtggfdkkhlokmlacChecked
import GoSem.Claim
import GoSem.ClaimJoined
import GoSem.ClaimMapViews
import Derived.JoinedTies
import Derived.KernelRfl
namespace Go.Proofs.Ytggfdkkhlokmlac
/- THE CELL 'sum', in the pinned program and in every row, IS THE sha256 OF THE DUMP (.gsa) THAT YtggfdkkhlokmlacProg.lean LOADS. Nothing in Lean hashes anything: it is a label: what it is worth is what the hold of that sum in a sandbox is worth. -/
noncomputable def Try.pinned : Pinned := { name := "ytggfdkkhlokmlac", sum := "27ef1e7edf303708fca629f2a690805914b7bfdf5b970bcd4e7619c8faf41c71", checked := Try.checked }
namespace Rows
def none {H : Type} : Left H := { results := [], args := [] }

/-- 'quittancetop.TopMemory': WHATEVER THE INPUT: true; the input reads as it did. -/
def topMemorySpec : ChangeSpec := { name := "topMemory", fn := fun _ => fun
  | [d] => { results := [.lit (.bool true)], args := [d] }
  | _ => none }
def topMemoryRow : OpenClaim := { program := "ytggfdkkhlokmlac", sum := "27ef1e7edf303708fca629f2a690805914b7bfdf5b970bcd4e7619c8faf41c71", func := "quittance/quittancetop.TopMemory", spec := "topMemory", unfollowed := true, recurses := true, apart := false }
def TopMemorySaid : Prop := topMemoryRow.holds Try.pinned (OpenSpec.ofChange topMemorySpec)

/-- ITS FALSE NEIGHBOUR: 'it returns false'. Refute it at one input. -/
def topMemoryWrong : ChangeSpec := { name := "topMemory", fn := fun _ => fun
  | [d] => { results := [.lit (.bool false)], args := [d] }
  | _ => none }
def TopMemoryWrongFalsely : Prop := topMemoryRow.holds Try.pinned (OpenSpec.ofChange topMemoryWrong)

/-- 'quittancetop.TopEnds': WHATEVER THE INPUT: true; the input reads as it did. -/
def topEndsSpec : ChangeSpec := { name := "topEnds", fn := fun _ => fun
  | [d1, d2] => { results := [.lit (.bool true)], args := [d1, d2] }
  | _ => none }
def topEndsRow : OpenClaim := { program := "ytggfdkkhlokmlac", sum := "27ef1e7edf303708fca629f2a690805914b7bfdf5b970bcd4e7619c8faf41c71", func := "quittance/quittancetop.TopEnds", spec := "topEnds", unfollowed := true, recurses := true, apart := false }
def TopEndsSaid : Prop := topEndsRow.holds Try.pinned (OpenSpec.ofChange topEndsSpec)

/-- ITS FALSE NEIGHBOUR: 'it returns false'. Refute it at one input. -/
def topEndsWrong : ChangeSpec := { name := "topEnds", fn := fun _ => fun
  | [d1, d2] => { results := [.lit (.bool false)], args := [d1, d2] }
  | _ => none }
def TopEndsWrongFalsely : Prop := topEndsRow.holds Try.pinned (OpenSpec.ofChange topEndsWrong)

/-- 'quittancetop.TopOutside': WHATEVER THE INPUT: true; the input reads as it did. -/
def topOutsideSpec : ChangeSpec := { name := "topOutside", fn := fun _ => fun
  | [d] => { results := [.lit (.bool true)], args := [d] }
  | _ => none }
def topOutsideRow : OpenClaim := { program := "ytggfdkkhlokmlac", sum := "27ef1e7edf303708fca629f2a690805914b7bfdf5b970bcd4e7619c8faf41c71", func := "quittance/quittancetop.TopOutside", spec := "topOutside", unfollowed := true, recurses := true, apart := false }
def TopOutsideSaid : Prop := topOutsideRow.holds Try.pinned (OpenSpec.ofChange topOutsideSpec)

/-- ITS FALSE NEIGHBOUR: 'it returns false'. Refute it at one input. -/
def topOutsideWrong : ChangeSpec := { name := "topOutside", fn := fun _ => fun
  | [d] => { results := [.lit (.bool false)], args := [d] }
  | _ => none }
def TopOutsideWrongFalsely : Prop := topOutsideRow.holds Try.pinned (OpenSpec.ofChange topOutsideWrong)

/-- 'quittancetop.TopRuns': WHATEVER THE INPUT: true; the input reads as it did. -/
def topRunsSpec : ChangeSpec := { name := "topRuns", fn := fun _ => fun
  | [d1, d2] => { results := [.lit (.bool true)], args := [d1, d2] }
  | _ => none }
def topRunsRow : OpenClaim := { program := "ytggfdkkhlokmlac", sum := "27ef1e7edf303708fca629f2a690805914b7bfdf5b970bcd4e7619c8faf41c71", func := "quittance/quittancetop.TopRuns", spec := "topRuns", unfollowed := true, recurses := true, apart := false }
def TopRunsSaid : Prop := topRunsRow.holds Try.pinned (OpenSpec.ofChange topRunsSpec)

/-- ITS FALSE NEIGHBOUR: 'it returns false'. Refute it at one input. -/
def topRunsWrong : ChangeSpec := { name := "topRuns", fn := fun _ => fun
  | [d1, d2] => { results := [.lit (.bool false)], args := [d1, d2] }
  | _ => none }
def TopRunsWrongFalsely : Prop := topRunsRow.holds Try.pinned (OpenSpec.ofChange topRunsWrong)

/- THE SECOND FORM. 'bulk': how many values and letters a reading holds, each counted each time it is reached (what is shared counts as often as it is met; a slice's spare places count too). A statement '..UptoSaid' is the law's where the arguments, and the package variables that the reading takes, are together of bulk at most 1048576: NARROWER than '..Said'. Prove '..Said' where nothing that the law and all that it calls make is longer than what came in: it says more and counts as full. Else prove '..UptoSaid'. A law counts once. -/
mutual
def uptoBulk {H : Type} : DataW H → Nat
  | .lit (.string bytes) => bytes.length + 1
  | .lit _ => 1
  | .nil => 1
  | .ptr d => uptoBulk d + 1
  | .slice elems spare => uptoBulkAll elems + uptoBulkAll spare + 1
  | .agg parts => uptoBulkAll parts + 1
  | .iface _ d => uptoBulk d + 1
  | .map entries => uptoBulkEntries entries + 1
  | .held _ => 1
def uptoBulkAll {H : Type} : List (DataW H) → Nat
  | [] => 0
  | d :: r => uptoBulk d + uptoBulkAll r
def uptoBulkEntries {H : Type} : List (Lit × DataW H) → Nat
  | [] => 0
  | x :: r => uptoBulkEntry x + uptoBulkEntries r
def uptoBulkEntry {H : Type} : Lit × DataW H → Nat
  | (.string bytes, d) => bytes.length + uptoBulk d + 1
  | (_, d) => uptoBulk d + 1
 end
def uptoSmall : (H : Type) → List (DataW H) → Bool := fun _ ds => decide (uptoBulkAll ds ≤ 1048576)
def OpenSpec.upto (s : _root_.Go.ChangeSpec) : _root_.Go.OpenSpec := { _root_.Go.OpenSpec.ofChange s with cond := some uptoSmall }

/-- 'quittancetop.TopMemory', WHERE WHAT IT READS IS OF BULK AT MOST 1048576: true; the input reads as it did. -/
def topMemoryUptoRow : OpenClaim := { program := "ytggfdkkhlokmlac", sum := "27ef1e7edf303708fca629f2a690805914b7bfdf5b970bcd4e7619c8faf41c71", func := "quittance/quittancetop.TopMemory", spec := "topMemory", unfollowed := true, recurses := true, apart := false, narrowed := true }
def TopMemoryUptoSaid : Prop := topMemoryUptoRow.holds Try.pinned (OpenSpec.upto topMemorySpec)

/-- 'quittancetop.TopEnds', WHERE WHAT IT READS IS OF BULK AT MOST 1048576: true; the input reads as it did. -/
def topEndsUptoRow : OpenClaim := { program := "ytggfdkkhlokmlac", sum := "27ef1e7edf303708fca629f2a690805914b7bfdf5b970bcd4e7619c8faf41c71", func := "quittance/quittancetop.TopEnds", spec := "topEnds", unfollowed := true, recurses := true, apart := false, narrowed := true }
def TopEndsUptoSaid : Prop := topEndsUptoRow.holds Try.pinned (OpenSpec.upto topEndsSpec)

/-- 'quittancetop.TopOutside', WHERE WHAT IT READS IS OF BULK AT MOST 1048576: true; the input reads as it did. -/
def topOutsideUptoRow : OpenClaim := { program := "ytggfdkkhlokmlac", sum := "27ef1e7edf303708fca629f2a690805914b7bfdf5b970bcd4e7619c8faf41c71", func := "quittance/quittancetop.TopOutside", spec := "topOutside", unfollowed := true, recurses := true, apart := false, narrowed := true }
def TopOutsideUptoSaid : Prop := topOutsideUptoRow.holds Try.pinned (OpenSpec.upto topOutsideSpec)

/-- 'quittancetop.TopRuns', WHERE WHAT IT READS IS OF BULK AT MOST 1048576: true; the input reads as it did. -/
def topRunsUptoRow : OpenClaim := { program := "ytggfdkkhlokmlac", sum := "27ef1e7edf303708fca629f2a690805914b7bfdf5b970bcd4e7619c8faf41c71", func := "quittance/quittancetop.TopRuns", spec := "topRuns", unfollowed := true, recurses := true, apart := false, narrowed := true }
def TopRunsUptoSaid : Prop := topRunsUptoRow.holds Try.pinned (OpenSpec.upto topRunsSpec)

end Rows
end Go.Proofs.Ytggfdkkhlokmlac
