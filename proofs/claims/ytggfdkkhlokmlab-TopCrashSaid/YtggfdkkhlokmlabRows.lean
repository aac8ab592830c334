/-
  No cell of these rows narrows 'for every input' (looked for: loops, veiled, ifaces, maps, wideKeys, modest, calm, conditions, laid).
  DERIVED. THE GIVEN ROWS OF THIS SEAT. 12 by the template 'for every input the law returns true; each argument reads behind the call as it read before'; 0 by the template 'total and deterministic' (their statements: YtggfdkkhlokmlabTotals.lean).
  GIVEN WITH THE SEED: the statements are not yours to turn. If you find one false, say at which input.
  Laid BY PROGRAM, IN A SANDBOX (cutbox-rows.mjs): the forced cells as the released guide's own fill.sh prints them over the translation 0b4bdce3fe073a8c… (all of the seat's roots in one cut). By AI agents, Wed Nov 11 2026. No macro, syntax, notation, axiom, sorry.
-/
import Derived.Test.YtggfdkkhlokmlabChecked
import GoSem.Claim
import GoSem.ClaimJoined
import GoSem.ClaimMapViews
import Derived.JoinedTies
import Derived.KernelRfl
namespace Go.Proofs.Ytggfdkkhlokmlab
/- THE CELL 'sum', in the pinned program and in every row, IS THE sha256 OF THE DUMP (.gsa) THAT YtggfdkkhlokmlabProg.lean LOADS. Nothing in Lean hashes anything: it is a label: what it is worth is what the hold of that sum in a sandbox is worth. -/
noncomputable def Try.pinned : Pinned := { name := "ytggfdkkhlokmlab", sum := "0b4bdce3fe073a8ca49106d26ee460c6483f68a2c710d0f6a5579b1c942069a7", checked := Try.checked }
namespace Rows
def none {H : Type} : Left H := { results := [], args := [] }

/-- 'quittancekeep.KnotMost': WHATEVER THE INPUT: true; the input reads as it did. -/
def knotMostSpec : ChangeSpec := { name := "knotMost", fn := fun _ => fun
  | [d1, d2] => { results := [.lit (.bool true)], args := [d1, d2] }
  | _ => none }
def knotMostRow : OpenClaim := { program := "ytggfdkkhlokmlab", sum := "0b4bdce3fe073a8ca49106d26ee460c6483f68a2c710d0f6a5579b1c942069a7", func := "quittance/quittancekeep.KnotMost", spec := "knotMost", unfollowed := true, recurses := true, apart := false }
def KnotMostSaid : Prop := knotMostRow.holds Try.pinned (OpenSpec.ofChange knotMostSpec)

/-- ITS FALSE NEIGHBOUR: 'it returns false'. Refute it at one input. -/
def knotMostWrong : ChangeSpec := { name := "knotMost", fn := fun _ => fun
  | [d1, d2] => { results := [.lit (.bool false)], args := [d1, d2] }
  | _ => none }
def KnotMostWrongFalsely : Prop := knotMostRow.holds Try.pinned (OpenSpec.ofChange knotMostWrong)

/-- 'quittancekeep.KnotJoins': WHATEVER THE INPUT: true; the input reads as it did. -/
def knotJoinsSpec : ChangeSpec := { name := "knotJoins", fn := fun _ => fun
  | [d1, d2, d3] => { results := [.lit (.bool true)], args := [d1, d2, d3] }
  | _ => none }
def knotJoinsRow : OpenClaim := { program := "ytggfdkkhlokmlab", sum := "0b4bdce3fe073a8ca49106d26ee460c6483f68a2c710d0f6a5579b1c942069a7", func := "quittance/quittancekeep.KnotJoins", spec := "knotJoins", unfollowed := true, recurses := true, apart := false }
def KnotJoinsSaid : Prop := knotJoinsRow.holds Try.pinned (OpenSpec.ofChange knotJoinsSpec)

/-- ITS FALSE NEIGHBOUR: 'it returns false'. Refute it at one input. -/
def knotJoinsWrong : ChangeSpec := { name := "knotJoins", fn := fun _ => fun
  | [d1, d2, d3] => { results := [.lit (.bool false)], args := [d1, d2, d3] }
  | _ => none }
def KnotJoinsWrongFalsely : Prop := knotJoinsRow.holds Try.pinned (OpenSpec.ofChange knotJoinsWrong)

/-- 'quittancetop.TopBounds': WHATEVER THE INPUT: true; the input reads as it did. -/
def topBoundsSpec : ChangeSpec := { name := "topBounds", fn := fun _ => fun
  | [d] => { results := [.lit (.bool true)], args := [d] }
  | _ => none }
def topBoundsRow : OpenClaim := { program := "ytggfdkkhlokmlab", sum := "0b4bdce3fe073a8ca49106d26ee460c6483f68a2c710d0f6a5579b1c942069a7", func := "quittance/quittancetop.TopBounds", spec := "topBounds", unfollowed := true, recurses := true, apart := false }
def TopBoundsSaid : Prop := topBoundsRow.holds Try.pinned (OpenSpec.ofChange topBoundsSpec)

/-- ITS FALSE NEIGHBOUR: 'it returns false'. Refute it at one input. -/
def topBoundsWrong : ChangeSpec := { name := "topBounds", fn := fun _ => fun
  | [d] => { results := [.lit (.bool false)], args := [d] }
  | _ => none }
def TopBoundsWrongFalsely : Prop := topBoundsRow.holds Try.pinned (OpenSpec.ofChange topBoundsWrong)

/-- 'quittancelaw.BankNil': WHATEVER THE INPUT: true; the input reads as it did. -/
def bankNilSpec : ChangeSpec := { name := "bankNil", fn := fun _ => fun
  | [d] => { results := [.lit (.bool true)], args := [d] }
  | _ => none }
def bankNilRow : OpenClaim := { program := "ytggfdkkhlokmlab", sum := "0b4bdce3fe073a8ca49106d26ee460c6483f68a2c710d0f6a5579b1c942069a7", func := "quittance/quittancelaw.BankNil", spec := "bankNil", unfollowed := true, recurses := true, apart := false }
def BankNilSaid : Prop := bankNilRow.holds Try.pinned (OpenSpec.ofChange bankNilSpec)

/-- ITS FALSE NEIGHBOUR: 'it returns false'. Refute it at one input. -/
def bankNilWrong : ChangeSpec := { name := "bankNil", fn := fun _ => fun
  | [d] => { results := [.lit (.bool false)], args := [d] }
  | _ => none }
def BankNilWrongFalsely : Prop := bankNilRow.holds Try.pinned (OpenSpec.ofChange bankNilWrong)

/-- 'quittancelaw.BankRuns': WHATEVER THE INPUT: true; the input reads as it did. -/
def bankRunsSpec : ChangeSpec := { name := "bankRuns", fn := fun _ => fun
  | [d] => { results := [.lit (.bool true)], args := [d] }
  | _ => none }
def bankRunsRow : OpenClaim := { program := "ytggfdkkhlokmlab", sum := "0b4bdce3fe073a8ca49106d26ee460c6483f68a2c710d0f6a5579b1c942069a7", func := "quittance/quittancelaw.BankRuns", spec := "bankRuns", unfollowed := true, recurses := true, apart := false }
def BankRunsSaid : Prop := bankRunsRow.holds Try.pinned (OpenSpec.ofChange bankRunsSpec)

/-- ITS FALSE NEIGHBOUR: 'it returns false'. Refute it at one input. -/
def bankRunsWrong : ChangeSpec := { name := "bankRuns", fn := fun _ => fun
  | [d] => { results := [.lit (.bool false)], args := [d] }
  | _ => none }
def BankRunsWrongFalsely : Prop := bankRunsRow.holds Try.pinned (OpenSpec.ofChange bankRunsWrong)

/-- 'quittancelaw.BankNexts': WHATEVER THE INPUT: true; the input reads as it did. -/
def bankNextsSpec : ChangeSpec := { name := "bankNexts", fn := fun _ => fun
  | [d1, d2] => { results := [.lit (.bool true)], args := [d1, d2] }
  | _ => none }
def bankNextsRow : OpenClaim := { program := "ytggfdkkhlokmlab", sum := "0b4bdce3fe073a8ca49106d26ee460c6483f68a2c710d0f6a5579b1c942069a7", func := "quittance/quittancelaw.BankNexts", spec := "bankNexts", unfollowed := true, recurses := true, apart := false }
def BankNextsSaid : Prop := bankNextsRow.holds Try.pinned (OpenSpec.ofChange bankNextsSpec)

/-- ITS FALSE NEIGHBOUR: 'it returns false'. Refute it at one input. -/
def bankNextsWrong : ChangeSpec := { name := "bankNexts", fn := fun _ => fun
  | [d1, d2] => { results := [.lit (.bool false)], args := [d1, d2] }
  | _ => none }
def BankNextsWrongFalsely : Prop := bankNextsRow.holds Try.pinned (OpenSpec.ofChange bankNextsWrong)

/-- 'quittancelaw.BankPlays': WHATEVER THE INPUT: true; the input reads as it did. -/
def bankPlaysSpec : ChangeSpec := { name := "bankPlays", fn := fun _ => fun
  | [d] => { results := [.lit (.bool true)], args := [d] }
  | _ => none }
def bankPlaysRow : OpenClaim := { program := "ytggfdkkhlokmlab", sum := "0b4bdce3fe073a8ca49106d26ee460c6483f68a2c710d0f6a5579b1c942069a7", func := "quittance/quittancelaw.BankPlays", spec := "bankPlays", unfollowed := true, recurses := true, apart := false }
def BankPlaysSaid : Prop := bankPlaysRow.holds Try.pinned (OpenSpec.ofChange bankPlaysSpec)

/-- ITS FALSE NEIGHBOUR: 'it returns false'. Refute it at one input. -/
def bankPlaysWrong : ChangeSpec := { name := "bankPlays", fn := fun _ => fun
  | [d] => { results := [.lit (.bool false)], args := [d] }
  | _ => none }
def BankPlaysWrongFalsely : Prop := bankPlaysRow.holds Try.pinned (OpenSpec.ofChange bankPlaysWrong)

/-- 'quittancetop.TopStates': WHATEVER THE INPUT: true; the input reads as it did. -/
def topStatesSpec : ChangeSpec := { name := "topStates", fn := fun _ => fun
  | [d] => { results := [.lit (.bool true)], args := [d] }
  | _ => none }
def topStatesRow : OpenClaim := { program := "ytggfdkkhlokmlab", sum := "0b4bdce3fe073a8ca49106d26ee460c6483f68a2c710d0f6a5579b1c942069a7", func := "quittance/quittancetop.TopStates", spec := "topStates", unfollowed := true, recurses := true, apart := false }
def TopStatesSaid : Prop := topStatesRow.holds Try.pinned (OpenSpec.ofChange topStatesSpec)

/-- ITS FALSE NEIGHBOUR: 'it returns false'. Refute it at one input. -/
def topStatesWrong : ChangeSpec := { name := "topStates", fn := fun _ => fun
  | [d] => { results := [.lit (.bool false)], args := [d] }
  | _ => none }
def TopStatesWrongFalsely : Prop := topStatesRow.holds Try.pinned (OpenSpec.ofChange topStatesWrong)

/-- 'quittancetop.TopCrash': WHATEVER THE INPUT: true; the input reads as it did. -/
def topCrashSpec : ChangeSpec := { name := "topCrash", fn := fun _ => fun
  | [d] => { results := [.lit (.bool true)], args := [d] }
  | _ => none }
def topCrashRow : OpenClaim := { program := "ytggfdkkhlokmlab", sum := "0b4bdce3fe073a8ca49106d26ee460c6483f68a2c710d0f6a5579b1c942069a7", func := "quittance/quittancetop.TopCrash", spec := "topCrash", unfollowed := true, recurses := true, apart := false }
def TopCrashSaid : Prop := topCrashRow.holds Try.pinned (OpenSpec.ofChange topCrashSpec)

/-- ITS FALSE NEIGHBOUR: 'it returns false'. Refute it at one input. -/
def topCrashWrong : ChangeSpec := { name := "topCrash", fn := fun _ => fun
  | [d] => { results := [.lit (.bool false)], args := [d] }
  | _ => none }
def TopCrashWrongFalsely : Prop := topCrashRow.holds Try.pinned (OpenSpec.ofChange topCrashWrong)

/-- 'quittancetop.TopBook': WHATEVER THE INPUT: true; the input reads as it did. -/
def topBookSpec : ChangeSpec := { name := "topBook", fn := fun _ => fun
  | [d] => { results := [.lit (.bool true)], args := [d] }
  | _ => none }
def topBookRow : OpenClaim := { program := "ytggfdkkhlokmlab", sum := "0b4bdce3fe073a8ca49106d26ee460c6483f68a2c710d0f6a5579b1c942069a7", func := "quittance/quittancetop.TopBook", spec := "topBook", unfollowed := true, recurses := true, apart := false }
def TopBookSaid : Prop := topBookRow.holds Try.pinned (OpenSpec.ofChange topBookSpec)

/-- ITS FALSE NEIGHBOUR: 'it returns false'. Refute it at one input. -/
def topBookWrong : ChangeSpec := { name := "topBook", fn := fun _ => fun
  | [d] => { results := [.lit (.bool false)], args := [d] }
  | _ => none }
def TopBookWrongFalsely : Prop := topBookRow.holds Try.pinned (OpenSpec.ofChange topBookWrong)

/-- 'quittancetop.TopClose': WHATEVER THE INPUT: true; the input reads as it did. -/
def topCloseSpec : ChangeSpec := { name := "topClose", fn := fun _ => fun
  | [d] => { results := [.lit (.bool true)], args := [d] }
  | _ => none }
def topCloseRow : OpenClaim := { program := "ytggfdkkhlokmlab", sum := "0b4bdce3fe073a8ca49106d26ee460c6483f68a2c710d0f6a5579b1c942069a7", func := "quittance/quittancetop.TopClose", spec := "topClose", unfollowed := true, recurses := true, apart := false }
def TopCloseSaid : Prop := topCloseRow.holds Try.pinned (OpenSpec.ofChange topCloseSpec)

/-- ITS FALSE NEIGHBOUR: 'it returns false'. Refute it at one input. -/
def topCloseWrong : ChangeSpec := { name := "topClose", fn := fun _ => fun
  | [d] => { results := [.lit (.bool false)], args := [d] }
  | _ => none }
def TopCloseWrongFalsely : Prop := topCloseRow.holds Try.pinned (OpenSpec.ofChange topCloseWrong)

/-- 'quittancetop.TopRefused': WHATEVER THE INPUT: true; the input reads as it did. -/
def topRefusedSpec : ChangeSpec := { name := "topRefused", fn := fun _ => fun
  | [d1, d2] => { results := [.lit (.bool true)], args := [d1, d2] }
  | _ => none }
def topRefusedRow : OpenClaim := { program := "ytggfdkkhlokmlab", sum := "0b4bdce3fe073a8ca49106d26ee460c6483f68a2c710d0f6a5579b1c942069a7", func := "quittance/quittancetop.TopRefused", spec := "topRefused", unfollowed := true, recurses := true, apart := false }
def TopRefusedSaid : Prop := topRefusedRow.holds Try.pinned (OpenSpec.ofChange topRefusedSpec)

/-- ITS FALSE NEIGHBOUR: 'it returns false'. Refute it at one input. -/
def topRefusedWrong : ChangeSpec := { name := "topRefused", fn := fun _ => fun
  | [d1, d2] => { results := [.lit (.bool false)], args := [d1, d2] }
  | _ => none }
def TopRefusedWrongFalsely : Prop := topRefusedRow.holds Try.pinned (OpenSpec.ofChange topRefusedWrong)

/- THE SECOND FORM. 'bulk': how many values and letters a reading holds, each counted each time it is reached (what is shared counts as often as it is met; a slice's spare places count too). A statement '..UptoSaid' is the law's where the arguments, and the package variables that the reading takes, are together of bulk at most 1048576: NARROWER than '..Said'. Prove '..Said' where nothing that the law and all that it calls make is longer than what came in: it says more and counts as full. Else prove '..UptoSaid'. A law counts once. -/
mutual
def uptoBulk {H : Type} : DataW H → Nat
  | .lit (.string bytes) => bytes.length + 1
  | .lit _ => 1
  | .nil => 1
  | .ptr d => uptoBulk d + 1
  | .slice elems spare => uptoBulkAll elems + uptoBulkAll spare + 1
  | .agg parts => uptoBulkAll parts + 1
  | .iface _ d => uptoBulk d + 1
  | .map entries => uptoBulkEntries entries + 1
  | .held _ => 1
def uptoBulkAll {H : Type} : List (DataW H) → Nat
  | [] => 0
  | d :: r => uptoBulk d + uptoBulkAll r
def uptoBulkEntries {H : Type} : List (Lit × DataW H) → Nat
  | [] => 0
  | x :: r => uptoBulkEntry x + uptoBulkEntries r
def uptoBulkEntry {H : Type} : Lit × DataW H → Nat
  | (.string bytes, d) => bytes.length + uptoBulk d + 1
  | (_, d) => uptoBulk d + 1
 end
def uptoSmall : (H : Type) → List (DataW H) → Bool := fun _ ds => decide (uptoBulkAll ds ≤ 1048576)
def OpenSpec.upto (s : _root_.Go.ChangeSpec) : _root_.Go.OpenSpec := { _root_.Go.OpenSpec.ofChange s with cond := some uptoSmall }

/-- 'quittancekeep.KnotMost', WHERE WHAT IT READS IS OF BULK AT MOST 1048576: true; the input reads as it did. -/
def knotMostUptoRow : OpenClaim := { program := "ytggfdkkhlokmlab", sum := "0b4bdce3fe073a8ca49106d26ee460c6483f68a2c710d0f6a5579b1c942069a7", func := "quittance/quittancekeep.KnotMost", spec := "knotMost", unfollowed := true, recurses := true, apart := false, narrowed := true }
def KnotMostUptoSaid : Prop := knotMostUptoRow.holds Try.pinned (OpenSpec.upto knotMostSpec)

/-- 'quittancekeep.KnotJoins', WHERE WHAT IT READS IS OF BULK AT MOST 1048576: true; the input reads as it did. -/
def knotJoinsUptoRow : OpenClaim := { program := "ytggfdkkhlokmlab", sum := "0b4bdce3fe073a8ca49106d26ee460c6483f68a2c710d0f6a5579b1c942069a7", func := "quittance/quittancekeep.KnotJoins", spec := "knotJoins", unfollowed := true, recurses := true, apart := false, narrowed := true }
def KnotJoinsUptoSaid : Prop := knotJoinsUptoRow.holds Try.pinned (OpenSpec.upto knotJoinsSpec)

/-- 'quittancetop.TopBounds', WHERE WHAT IT READS IS OF BULK AT MOST 1048576: true; the input reads as it did. -/
def topBoundsUptoRow : OpenClaim := { program := "ytggfdkkhlokmlab", sum := "0b4bdce3fe073a8ca49106d26ee460c6483f68a2c710d0f6a5579b1c942069a7", func := "quittance/quittancetop.TopBounds", spec := "topBounds", unfollowed := true, recurses := true, apart := false, narrowed := true }
def TopBoundsUptoSaid : Prop := topBoundsUptoRow.holds Try.pinned (OpenSpec.upto topBoundsSpec)

/-- 'quittancelaw.BankNil', WHERE WHAT IT READS IS OF BULK AT MOST 1048576: true; the input reads as it did. -/
def bankNilUptoRow : OpenClaim := { program := "ytggfdkkhlokmlab", sum := "0b4bdce3fe073a8ca49106d26ee460c6483f68a2c710d0f6a5579b1c942069a7", func := "quittance/quittancelaw.BankNil", spec := "bankNil", unfollowed := true, recurses := true, apart := false, narrowed := true }
def BankNilUptoSaid : Prop := bankNilUptoRow.holds Try.pinned (OpenSpec.upto bankNilSpec)

/-- 'quittancelaw.BankRuns', WHERE WHAT IT READS IS OF BULK AT MOST 1048576: true; the input reads as it did. -/
def bankRunsUptoRow : OpenClaim := { program := "ytggfdkkhlokmlab", sum := "0b4bdce3fe073a8ca49106d26ee460c6483f68a2c710d0f6a5579b1c942069a7", func := "quittance/quittancelaw.BankRuns", spec := "bankRuns", unfollowed := true, recurses := true, apart := false, narrowed := true }
def BankRunsUptoSaid : Prop := bankRunsUptoRow.holds Try.pinned (OpenSpec.upto bankRunsSpec)

/-- 'quittancelaw.BankNexts', WHERE WHAT IT READS IS OF BULK AT MOST 1048576: true; the input reads as it did. -/
def bankNextsUptoRow : OpenClaim := { program := "ytggfdkkhlokmlab", sum := "0b4bdce3fe073a8ca49106d26ee460c6483f68a2c710d0f6a5579b1c942069a7", func := "quittance/quittancelaw.BankNexts", spec := "bankNexts", unfollowed := true, recurses := true, apart := false, narrowed := true }
def BankNextsUptoSaid : Prop := bankNextsUptoRow.holds Try.pinned (OpenSpec.upto bankNextsSpec)

/-- 'quittancelaw.BankPlays', WHERE WHAT IT READS IS OF BULK AT MOST 1048576: true; the input reads as it did. -/
def bankPlaysUptoRow : OpenClaim := { program := "ytggfdkkhlokmlab", sum := "0b4bdce3fe073a8ca49106d26ee460c6483f68a2c710d0f6a5579b1c942069a7", func := "quittance/quittancelaw.BankPlays", spec := "bankPlays", unfollowed := true, recurses := true, apart := false, narrowed := true }
def BankPlaysUptoSaid : Prop := bankPlaysUptoRow.holds Try.pinned (OpenSpec.upto bankPlaysSpec)

/-- 'quittancetop.TopStates', WHERE WHAT IT READS IS OF BULK AT MOST 1048576: true; the input reads as it did. -/
def topStatesUptoRow : OpenClaim := { program := "ytggfdkkhlokmlab", sum := "0b4bdce3fe073a8ca49106d26ee460c6483f68a2c710d0f6a5579b1c942069a7", func := "quittance/quittancetop.TopStates", spec := "topStates", unfollowed := true, recurses := true, apart := false, narrowed := true }
def TopStatesUptoSaid : Prop := topStatesUptoRow.holds Try.pinned (OpenSpec.upto topStatesSpec)

/-- 'quittancetop.TopCrash', WHERE WHAT IT READS IS OF BULK AT MOST 1048576: true; the input reads as it did. -/
def topCrashUptoRow : OpenClaim := { program := "ytggfdkkhlokmlab", sum := "0b4bdce3fe073a8ca49106d26ee460c6483f68a2c710d0f6a5579b1c942069a7", func := "quittance/quittancetop.TopCrash", spec := "topCrash", unfollowed := true, recurses := true, apart := false, narrowed := true }
def TopCrashUptoSaid : Prop := topCrashUptoRow.holds Try.pinned (OpenSpec.upto topCrashSpec)

/-- 'quittancetop.TopBook', WHERE WHAT IT READS IS OF BULK AT MOST 1048576: true; the input reads as it did. -/
def topBookUptoRow : OpenClaim := { program := "ytggfdkkhlokmlab", sum := "0b4bdce3fe073a8ca49106d26ee460c6483f68a2c710d0f6a5579b1c942069a7", func := "quittance/quittancetop.TopBook", spec := "topBook", unfollowed := true, recurses := true, apart := false, narrowed := true }
def TopBookUptoSaid : Prop := topBookUptoRow.holds Try.pinned (OpenSpec.upto topBookSpec)

/-- 'quittancetop.TopClose', WHERE WHAT IT READS IS OF BULK AT MOST 1048576: true; the input reads as it did. -/
def topCloseUptoRow : OpenClaim := { program := "ytggfdkkhlokmlab", sum := "0b4bdce3fe073a8ca49106d26ee460c6483f68a2c710d0f6a5579b1c942069a7", func := "quittance/quittancetop.TopClose", spec := "topClose", unfollowed := true, recurses := true, apart := false, narrowed := true }
def TopCloseUptoSaid : Prop := topCloseUptoRow.holds Try.pinned (OpenSpec.upto topCloseSpec)

/-- 'quittancetop.TopRefused', WHERE WHAT IT READS IS OF BULK AT MOST 1048576: true; the input reads as it did. -/
def topRefusedUptoRow : OpenClaim := { program := "ytggfdkkhlokmlab", sum := "0b4bdce3fe073a8ca49106d26ee460c6483f68a2c710d0f6a5579b1c942069a7", func := "quittance/quittancetop.TopRefused", spec := "topRefused", unfollowed := true, recurses := true, apart := false, narrowed := true }
def TopRefusedUptoSaid : Prop := topRefusedUptoRow.holds Try.pinned (OpenSpec.upto topRefusedSpec)

end Rows
end Go.Proofs.Ytggfdkkhlokmlab
