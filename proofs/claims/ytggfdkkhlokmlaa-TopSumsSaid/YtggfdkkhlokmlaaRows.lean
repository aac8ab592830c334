/-
  No cell of these rows narrows 'for every input' (looked for: loops, veiled, ifaces, maps, wideKeys, modest, calm, conditions, laid).
  DERIVED. THE GIVEN ROWS OF THIS SEAT. 12 by the template 'for every input the law returns true; each argument reads behind the call as it read before'; 0 by the template 'total and deterministic' (their statements: YtggfdkkhlokmlaaTotals.lean).
  GIVEN WITH THE SEED: the statements are not yours to turn. If you find one false, say at which input.
  Laid BY PROGRAM, IN A SANDBOX (cutbox-rows.mjs): the forced cells as the released guide's own fill.sh prints them over the translation 50b369e45a882ac0… (all of the seat's roots in one cut). By AI agents, Wed Nov 11 2026. No macro, syntax, notation, axiom, sorry.
-/
import Derived.Test.YtggfdkkhlokmlaaChecked
import GoSem.Claim
import GoSem.ClaimJoined
import GoSem.ClaimMapViews
import Derived.JoinedTies
import Derived.KernelRfl
namespace Go.Proofs.Ytggfdkkhlokmlaa
/- THE CELL 'sum', in the pinned program and in every row, IS THE sha256 OF THE DUMP (.gsa) THAT YtggfdkkhlokmlaaProg.lean LOADS. Nothing in Lean hashes anything: it is a label: what it is worth is what the hold of that sum in a sandbox is worth. -/
noncomputable def Try.pinned : Pinned := { name := "ytggfdkkhlokmlaa", sum := "50b369e45a882ac0bb445f3052a5d067e149149e3c98e985560bb503770a6a2a", checked := Try.checked }
namespace Rows
def none {H : Type} : Left H := { results := [], args := [] }

/-- 'quittancelaw.Names': WHATEVER THE INPUT: true; the input reads as it did. -/
def namesSpec : ChangeSpec := { name := "names", fn := fun _ => fun
  | [] => { results := [.lit (.bool true)], args := [] }
  | _ => none }
def namesRow : OpenClaim := { program := "ytggfdkkhlokmlaa", sum := "50b369e45a882ac0bb445f3052a5d067e149149e3c98e985560bb503770a6a2a", func := "quittance/quittancelaw.Names", spec := "names", apart := false }
def NamesSaid : Prop := namesRow.holds Try.pinned (OpenSpec.ofChange namesSpec)

/-- ITS FALSE NEIGHBOUR: 'it returns false'. Refute it at one input. -/
def namesWrong : ChangeSpec := { name := "names", fn := fun _ => fun
  | [] => { results := [.lit (.bool false)], args := [] }
  | _ => none }
def NamesWrongFalsely : Prop := namesRow.holds Try.pinned (OpenSpec.ofChange namesWrong)

/-- 'quittancelaw.LedgerTells': WHATEVER THE INPUT: true; the input reads as it did. -/
def ledgerTellsSpec : ChangeSpec := { name := "ledgerTells", fn := fun _ => fun
  | [d1, d2, d3, d4] => { results := [.lit (.bool true)], args := [d1, d2, d3, d4] }
  | _ => none }
def ledgerTellsRow : OpenClaim := { program := "ytggfdkkhlokmlaa", sum := "50b369e45a882ac0bb445f3052a5d067e149149e3c98e985560bb503770a6a2a", func := "quittance/quittancelaw.LedgerTells", spec := "ledgerTells", apart := false }
def LedgerTellsSaid : Prop := ledgerTellsRow.holds Try.pinned (OpenSpec.ofChange ledgerTellsSpec)

/-- ITS FALSE NEIGHBOUR: 'it returns false'. Refute it at one input. -/
def ledgerTellsWrong : ChangeSpec := { name := "ledgerTells", fn := fun _ => fun
  | [d1, d2, d3, d4] => { results := [.lit (.bool false)], args := [d1, d2, d3, d4] }
  | _ => none }
def LedgerTellsWrongFalsely : Prop := ledgerTellsRow.holds Try.pinned (OpenSpec.ofChange ledgerTellsWrong)

/-- 'quittancekeep.LedgerSums': WHATEVER THE INPUT: true; the input reads as it did. -/
def ledgerSumsSpec : ChangeSpec := { name := "ledgerSums", fn := fun _ => fun
  | [d1, d2, d3, d4] => { results := [.lit (.bool true)], args := [d1, d2, d3, d4] }
  | _ => none }
def ledgerSumsRow : OpenClaim := { program := "ytggfdkkhlokmlaa", sum := "50b369e45a882ac0bb445f3052a5d067e149149e3c98e985560bb503770a6a2a", func := "quittance/quittancekeep.LedgerSums", spec := "ledgerSums", apart := false }
def LedgerSumsSaid : Prop := ledgerSumsRow.holds Try.pinned (OpenSpec.ofChange ledgerSumsSpec)

/-- ITS FALSE NEIGHBOUR: 'it returns false'. Refute it at one input. -/
def ledgerSumsWrong : ChangeSpec := { name := "ledgerSums", fn := fun _ => fun
  | [d1, d2, d3, d4] => { results := [.lit (.bool false)], args := [d1, d2, d3, d4] }
  | _ => none }
def LedgerSumsWrongFalsely : Prop := ledgerSumsRow.holds Try.pinned (OpenSpec.ofChange ledgerSumsWrong)

/-- 'quittancelaw.BookTells': WHATEVER THE INPUT: true; the input reads as it did. -/
def bookTellsSpec : ChangeSpec := { name := "bookTells", fn := fun _ => fun
  | [d1, d2] => { results := [.lit (.bool true)], args := [d1, d2] }
  | _ => none }
def bookTellsRow : OpenClaim := { program := "ytggfdkkhlokmlaa", sum := "50b369e45a882ac0bb445f3052a5d067e149149e3c98e985560bb503770a6a2a", func := "quittance/quittancelaw.BookTells", spec := "bookTells", apart := false }
def BookTellsSaid : Prop := bookTellsRow.holds Try.pinned (OpenSpec.ofChange bookTellsSpec)

/-- ITS FALSE NEIGHBOUR: 'it returns false'. Refute it at one input. -/
def bookTellsWrong : ChangeSpec := { name := "bookTells", fn := fun _ => fun
  | [d1, d2] => { results := [.lit (.bool false)], args := [d1, d2] }
  | _ => none }
def BookTellsWrongFalsely : Prop := bookTellsRow.holds Try.pinned (OpenSpec.ofChange bookTellsWrong)

/-- 'quittancekeep.BookBack': WHATEVER THE INPUT: true; the input reads as it did. -/
def bookBackSpec : ChangeSpec := { name := "bookBack", fn := fun _ => fun
  | [d1, d2] => { results := [.lit (.bool true)], args := [d1, d2] }
  | _ => none }
def bookBackRow : OpenClaim := { program := "ytggfdkkhlokmlaa", sum := "50b369e45a882ac0bb445f3052a5d067e149149e3c98e985560bb503770a6a2a", func := "quittance/quittancekeep.BookBack", spec := "bookBack", apart := false }
def BookBackSaid : Prop := bookBackRow.holds Try.pinned (OpenSpec.ofChange bookBackSpec)

/-- ITS FALSE NEIGHBOUR: 'it returns false'. Refute it at one input. -/
def bookBackWrong : ChangeSpec := { name := "bookBack", fn := fun _ => fun
  | [d1, d2] => { results := [.lit (.bool false)], args := [d1, d2] }
  | _ => none }
def BookBackWrongFalsely : Prop := bookBackRow.holds Try.pinned (OpenSpec.ofChange bookBackWrong)

/-- 'quittancekeep.BookRead': WHATEVER THE INPUT: true; the input reads as it did. -/
def bookReadSpec : ChangeSpec := { name := "bookRead", fn := fun _ => fun
  | [d] => { results := [.lit (.bool true)], args := [d] }
  | _ => none }
def bookReadRow : OpenClaim := { program := "ytggfdkkhlokmlaa", sum := "50b369e45a882ac0bb445f3052a5d067e149149e3c98e985560bb503770a6a2a", func := "quittance/quittancekeep.BookRead", spec := "bookRead", apart := false }
def BookReadSaid : Prop := bookReadRow.holds Try.pinned (OpenSpec.ofChange bookReadSpec)

/-- ITS FALSE NEIGHBOUR: 'it returns false'. Refute it at one input. -/
def bookReadWrong : ChangeSpec := { name := "bookRead", fn := fun _ => fun
  | [d] => { results := [.lit (.bool false)], args := [d] }
  | _ => none }
def BookReadWrongFalsely : Prop := bookReadRow.holds Try.pinned (OpenSpec.ofChange bookReadWrong)

/-- 'quittancelaw.QueueTells': WHATEVER THE INPUT: true; the input reads as it did. -/
def queueTellsSpec : ChangeSpec := { name := "queueTells", fn := fun _ => fun
  | [d1, d2, d3] => { results := [.lit (.bool true)], args := [d1, d2, d3] }
  | _ => none }
def queueTellsRow : OpenClaim := { program := "ytggfdkkhlokmlaa", sum := "50b369e45a882ac0bb445f3052a5d067e149149e3c98e985560bb503770a6a2a", func := "quittance/quittancelaw.QueueTells", spec := "queueTells", unfollowed := true, recurses := true, apart := false }
def QueueTellsSaid : Prop := queueTellsRow.holds Try.pinned (OpenSpec.ofChange queueTellsSpec)

/-- ITS FALSE NEIGHBOUR: 'it returns false'. Refute it at one input. -/
def queueTellsWrong : ChangeSpec := { name := "queueTells", fn := fun _ => fun
  | [d1, d2, d3] => { results := [.lit (.bool false)], args := [d1, d2, d3] }
  | _ => none }
def QueueTellsWrongFalsely : Prop := queueTellsRow.holds Try.pinned (OpenSpec.ofChange queueTellsWrong)

/-- 'quittancetop.TopGood': WHATEVER THE INPUT: true; the input reads as it did. -/
def topGoodSpec : ChangeSpec := { name := "topGood", fn := fun _ => fun
  | [d] => { results := [.lit (.bool true)], args := [d] }
  | _ => none }
def topGoodRow : OpenClaim := { program := "ytggfdkkhlokmlaa", sum := "50b369e45a882ac0bb445f3052a5d067e149149e3c98e985560bb503770a6a2a", func := "quittance/quittancetop.TopGood", spec := "topGood", unfollowed := true, recurses := true, apart := false }
def TopGoodSaid : Prop := topGoodRow.holds Try.pinned (OpenSpec.ofChange topGoodSpec)

/-- ITS FALSE NEIGHBOUR: 'it returns false'. Refute it at one input. -/
def topGoodWrong : ChangeSpec := { name := "topGood", fn := fun _ => fun
  | [d] => { results := [.lit (.bool false)], args := [d] }
  | _ => none }
def TopGoodWrongFalsely : Prop := topGoodRow.holds Try.pinned (OpenSpec.ofChange topGoodWrong)

/-- 'quittancekeep.QueueRests': WHATEVER THE INPUT: true; the input reads as it did. -/
def queueRestsSpec : ChangeSpec := { name := "queueRests", fn := fun _ => fun
  | [d] => { results := [.lit (.bool true)], args := [d] }
  | _ => none }
def queueRestsRow : OpenClaim := { program := "ytggfdkkhlokmlaa", sum := "50b369e45a882ac0bb445f3052a5d067e149149e3c98e985560bb503770a6a2a", func := "quittance/quittancekeep.QueueRests", spec := "queueRests", unfollowed := true, recurses := true, apart := false }
def QueueRestsSaid : Prop := queueRestsRow.holds Try.pinned (OpenSpec.ofChange queueRestsSpec)

/-- ITS FALSE NEIGHBOUR: 'it returns false'. Refute it at one input. -/
def queueRestsWrong : ChangeSpec := { name := "queueRests", fn := fun _ => fun
  | [d] => { results := [.lit (.bool false)], args := [d] }
  | _ => none }
def QueueRestsWrongFalsely : Prop := queueRestsRow.holds Try.pinned (OpenSpec.ofChange queueRestsWrong)

/-- 'quittancekeep.KnotUnties': WHATEVER THE INPUT: true; the input reads as it did. -/
def knotUntiesSpec : ChangeSpec := { name := "knotUnties", fn := fun _ => fun
  | [d] => { results := [.lit (.bool true)], args := [d] }
  | _ => none }
def knotUntiesRow : OpenClaim := { program := "ytggfdkkhlokmlaa", sum := "50b369e45a882ac0bb445f3052a5d067e149149e3c98e985560bb503770a6a2a", func := "quittance/quittancekeep.KnotUnties", spec := "knotUnties", unfollowed := true, recurses := true, apart := false }
def KnotUntiesSaid : Prop := knotUntiesRow.holds Try.pinned (OpenSpec.ofChange knotUntiesSpec)

/-- ITS FALSE NEIGHBOUR: 'it returns false'. Refute it at one input. -/
def knotUntiesWrong : ChangeSpec := { name := "knotUnties", fn := fun _ => fun
  | [d] => { results := [.lit (.bool false)], args := [d] }
  | _ => none }
def KnotUntiesWrongFalsely : Prop := knotUntiesRow.holds Try.pinned (OpenSpec.ofChange knotUntiesWrong)

/-- 'quittancetop.TopSums': WHATEVER THE INPUT: true; the input reads as it did. -/
def topSumsSpec : ChangeSpec := { name := "topSums", fn := fun _ => fun
  | [d] => { results := [.lit (.bool true)], args := [d] }
  | _ => none }
def topSumsRow : OpenClaim := { program := "ytggfdkkhlokmlaa", sum := "50b369e45a882ac0bb445f3052a5d067e149149e3c98e985560bb503770a6a2a", func := "quittance/quittancetop.TopSums", spec := "topSums", unfollowed := true, recurses := true, apart := false }
def TopSumsSaid : Prop := topSumsRow.holds Try.pinned (OpenSpec.ofChange topSumsSpec)

/-- ITS FALSE NEIGHBOUR: 'it returns false'. Refute it at one input. -/
def topSumsWrong : ChangeSpec := { name := "topSums", fn := fun _ => fun
  | [d] => { results := [.lit (.bool false)], args := [d] }
  | _ => none }
def TopSumsWrongFalsely : Prop := topSumsRow.holds Try.pinned (OpenSpec.ofChange topSumsWrong)

/-- 'quittancelaw.KnotTells': WHATEVER THE INPUT: true; the input reads as it did. -/
def knotTellsSpec : ChangeSpec := { name := "knotTells", fn := fun _ => fun
  | [d1, d2] => { results := [.lit (.bool true)], args := [d1, d2] }
  | _ => none }
def knotTellsRow : OpenClaim := { program := "ytggfdkkhlokmlaa", sum := "50b369e45a882ac0bb445f3052a5d067e149149e3c98e985560bb503770a6a2a", func := "quittance/quittancelaw.KnotTells", spec := "knotTells", unfollowed := true, recurses := true, apart := false }
def KnotTellsSaid : Prop := knotTellsRow.holds Try.pinned (OpenSpec.ofChange knotTellsSpec)

/-- ITS FALSE NEIGHBOUR: 'it returns false'. Refute it at one input. -/
def knotTellsWrong : ChangeSpec := { name := "knotTells", fn := fun _ => fun
  | [d1, d2] => { results := [.lit (.bool false)], args := [d1, d2] }
  | _ => none }
def KnotTellsWrongFalsely : Prop := knotTellsRow.holds Try.pinned (OpenSpec.ofChange knotTellsWrong)

/- THE SECOND FORM. 'bulk': how many values and letters a reading holds, each counted each time it is reached (what is shared counts as often as it is met; a slice's spare places count too). A statement '..UptoSaid' is the law's where the arguments, and the package variables that the reading takes, are together of bulk at most 1048576: NARROWER than '..Said'. Prove '..Said' where nothing that the law and all that it calls make is longer than what came in: it says more and counts as full. Else prove '..UptoSaid'. A law counts once. -/
mutual
def uptoBulk {H : Type} : DataW H → Nat
  | .lit (.string bytes) => bytes.length + 1
  | .lit _ => 1
  | .nil => 1
  | .ptr d => uptoBulk d + 1
  | .slice elems spare => uptoBulkAll elems + uptoBulkAll spare + 1
  | .agg parts => uptoBulkAll parts + 1
  | .iface _ d => uptoBulk d + 1
  | .map entries => uptoBulkEntries entries + 1
  | .held _ => 1
def uptoBulkAll {H : Type} : List (DataW H) → Nat
  | [] => 0
  | d :: r => uptoBulk d + uptoBulkAll r
def uptoBulkEntries {H : Type} : List (Lit × DataW H) → Nat
  | [] => 0
  | x :: r => uptoBulkEntry x + uptoBulkEntries r
def uptoBulkEntry {H : Type} : Lit × DataW H → Nat
  | (.string bytes, d) => bytes.length + uptoBulk d + 1
  | (_, d) => uptoBulk d + 1
 end
def uptoSmall : (H : Type) → List (DataW H) → Bool := fun _ ds => decide (uptoBulkAll ds ≤ 1048576)
def OpenSpec.upto (s : _root_.Go.ChangeSpec) : _root_.Go.OpenSpec := { _root_.Go.OpenSpec.ofChange s with cond := some uptoSmall }

/-- 'quittancelaw.Names', WHERE WHAT IT READS IS OF BULK AT MOST 1048576: true; the input reads as it did. -/
def namesUptoRow : OpenClaim := { program := "ytggfdkkhlokmlaa", sum := "50b369e45a882ac0bb445f3052a5d067e149149e3c98e985560bb503770a6a2a", func := "quittance/quittancelaw.Names", spec := "names", apart := false, narrowed := true }
def NamesUptoSaid : Prop := namesUptoRow.holds Try.pinned (OpenSpec.upto namesSpec)

/-- 'quittancelaw.LedgerTells', WHERE WHAT IT READS IS OF BULK AT MOST 1048576: true; the input reads as it did. -/
def ledgerTellsUptoRow : OpenClaim := { program := "ytggfdkkhlokmlaa", sum := "50b369e45a882ac0bb445f3052a5d067e149149e3c98e985560bb503770a6a2a", func := "quittance/quittancelaw.LedgerTells", spec := "ledgerTells", apart := false, narrowed := true }
def LedgerTellsUptoSaid : Prop := ledgerTellsUptoRow.holds Try.pinned (OpenSpec.upto ledgerTellsSpec)

/-- 'quittancekeep.LedgerSums', WHERE WHAT IT READS IS OF BULK AT MOST 1048576: true; the input reads as it did. -/
def ledgerSumsUptoRow : OpenClaim := { program := "ytggfdkkhlokmlaa", sum := "50b369e45a882ac0bb445f3052a5d067e149149e3c98e985560bb503770a6a2a", func := "quittance/quittancekeep.LedgerSums", spec := "ledgerSums", apart := false, narrowed := true }
def LedgerSumsUptoSaid : Prop := ledgerSumsUptoRow.holds Try.pinned (OpenSpec.upto ledgerSumsSpec)

/-- 'quittancelaw.BookTells', WHERE WHAT IT READS IS OF BULK AT MOST 1048576: true; the input reads as it did. -/
def bookTellsUptoRow : OpenClaim := { program := "ytggfdkkhlokmlaa", sum := "50b369e45a882ac0bb445f3052a5d067e149149e3c98e985560bb503770a6a2a", func := "quittance/quittancelaw.BookTells", spec := "bookTells", apart := false, narrowed := true }
def BookTellsUptoSaid : Prop := bookTellsUptoRow.holds Try.pinned (OpenSpec.upto bookTellsSpec)

/-- 'quittancekeep.BookBack', WHERE WHAT IT READS IS OF BULK AT MOST 1048576: true; the input reads as it did. -/
def bookBackUptoRow : OpenClaim := { program := "ytggfdkkhlokmlaa", sum := "50b369e45a882ac0bb445f3052a5d067e149149e3c98e985560bb503770a6a2a", func := "quittance/quittancekeep.BookBack", spec := "bookBack", apart := false, narrowed := true }
def BookBackUptoSaid : Prop := bookBackUptoRow.holds Try.pinned (OpenSpec.upto bookBackSpec)

/-- 'quittancekeep.BookRead', WHERE WHAT IT READS IS OF BULK AT MOST 1048576: true; the input reads as it did. -/
def bookReadUptoRow : OpenClaim := { program := "ytggfdkkhlokmlaa", sum := "50b369e45a882ac0bb445f3052a5d067e149149e3c98e985560bb503770a6a2a", func := "quittance/quittancekeep.BookRead", spec := "bookRead", apart := false, narrowed := true }
def BookReadUptoSaid : Prop := bookReadUptoRow.holds Try.pinned (OpenSpec.upto bookReadSpec)

/-- 'quittancelaw.QueueTells', WHERE WHAT IT READS IS OF BULK AT MOST 1048576: true; the input reads as it did. -/
def queueTellsUptoRow : OpenClaim := { program := "ytggfdkkhlokmlaa", sum := "50b369e45a882ac0bb445f3052a5d067e149149e3c98e985560bb503770a6a2a", func := "quittance/quittancelaw.QueueTells", spec := "queueTells", unfollowed := true, recurses := true, apart := false, narrowed := true }
def QueueTellsUptoSaid : Prop := queueTellsUptoRow.holds Try.pinned (OpenSpec.upto queueTellsSpec)

/-- 'quittancetop.TopGood', WHERE WHAT IT READS IS OF BULK AT MOST 1048576: true; the input reads as it did. -/
def topGoodUptoRow : OpenClaim := { program := "ytggfdkkhlokmlaa", sum := "50b369e45a882ac0bb445f3052a5d067e149149e3c98e985560bb503770a6a2a", func := "quittance/quittancetop.TopGood", spec := "topGood", unfollowed := true, recurses := true, apart := false, narrowed := true }
def TopGoodUptoSaid : Prop := topGoodUptoRow.holds Try.pinned (OpenSpec.upto topGoodSpec)

/-- 'quittancekeep.QueueRests', WHERE WHAT IT READS IS OF BULK AT MOST 1048576: true; the input reads as it did. -/
def queueRestsUptoRow : OpenClaim := { program := "ytggfdkkhlokmlaa", sum := "50b369e45a882ac0bb445f3052a5d067e149149e3c98e985560bb503770a6a2a", func := "quittance/quittancekeep.QueueRests", spec := "queueRests", unfollowed := true, recurses := true, apart := false, narrowed := true }
def QueueRestsUptoSaid : Prop := queueRestsUptoRow.holds Try.pinned (OpenSpec.upto queueRestsSpec)

/-- 'quittancekeep.KnotUnties', WHERE WHAT IT READS IS OF BULK AT MOST 1048576: true; the input reads as it did. -/
def knotUntiesUptoRow : OpenClaim := { program := "ytggfdkkhlokmlaa", sum := "50b369e45a882ac0bb445f3052a5d067e149149e3c98e985560bb503770a6a2a", func := "quittance/quittancekeep.KnotUnties", spec := "knotUnties", unfollowed := true, recurses := true, apart := false, narrowed := true }
def KnotUntiesUptoSaid : Prop := knotUntiesUptoRow.holds Try.pinned (OpenSpec.upto knotUntiesSpec)

/-- 'quittancetop.TopSums', WHERE WHAT IT READS IS OF BULK AT MOST 1048576: true; the input reads as it did. -/
def topSumsUptoRow : OpenClaim := { program := "ytggfdkkhlokmlaa", sum := "50b369e45a882ac0bb445f3052a5d067e149149e3c98e985560bb503770a6a2a", func := "quittance/quittancetop.TopSums", spec := "topSums", unfollowed := true, recurses := true, apart := false, narrowed := true }
def TopSumsUptoSaid : Prop := topSumsUptoRow.holds Try.pinned (OpenSpec.upto topSumsSpec)

/-- 'quittancelaw.KnotTells', WHERE WHAT IT READS IS OF BULK AT MOST 1048576: true; the input reads as it did. -/
def knotTellsUptoRow : OpenClaim := { program := "ytggfdkkhlokmlaa", sum := "50b369e45a882ac0bb445f3052a5d067e149149e3c98e985560bb503770a6a2a", func := "quittance/quittancelaw.KnotTells", spec := "knotTells", unfollowed := true, recurses := true, apart := false, narrowed := true }
def KnotTellsUptoSaid : Prop := knotTellsUptoRow.holds Try.pinned (OpenSpec.upto knotTellsSpec)

end Rows
end Go.Proofs.Ytggfdkkhlokmlaa
