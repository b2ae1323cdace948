/-
  NARROWER THAN 'FOR EVERY INPUT', by the rows' own cells (each row's printed sentence says how): BookOnce: laid · BookLocks: laid · BookClaims: laid · BookRefused: laid · BookBalances: laid · BookVoids: laid · BookClosed: laid · BookSwaps: laid.
  DERIVED. THE GIVEN ROWS OF THIS SEAT. 8 by the template 'for every input the law returns true; each argument reads behind the call as it read before'; 0 by the template 'total and deterministic' (their statements: YtgocoofcelggcaaGreatDoorTotals.lean).
  GIVEN WITH THE SEED: the statements are not yours to turn. If you find one false, say at which input.
  Laid BY PROGRAM, IN A SANDBOX (cutbox-rows.mjs): the forced cells as the released guide's own fill.sh prints them over the translation 1203cebb2a53a3a9… (all of the seat's roots in one cut). By AI agents, Wed Nov 11 2026. No macro, syntax, notation, axiom, sorry.
-/
import Derived.Test.YtgocoofcelggcaaGreatDoorChecked
import GoSem.PinnedTables
import GoSem.Claim
import GoSem.ClaimJoined
import GoSem.ClaimMapViews
import Derived.JoinedTies
import Derived.KernelRfl
namespace Go.Proofs.YtgocoofcelggcaaGreatDoor
/- THE CELL 'sum', in the pinned program and in every row, IS THE sha256 OF THE DUMP (.gsa) THAT YtgocoofcelggcaaGreatDoorProg.lean LOADS. Nothing in Lean hashes anything: it is a label: what it is worth is what the hold of that sum in a sandbox is worth. -/
noncomputable def Tryz.pinned : Pinned := { name := "ytgocoofcelggcaagreatdoor", sum := "1203cebb2a53a3a927c09a9d9223eb024fb47f3a70e840ebe1b72fbbeb5c8f2e", checked := Tryz.checked }
namespace Rows
def none {H : Type} : Left H := { results := [], args := [] }

/- WHAT THE LISTED PACKAGE-LEVEL VARIABLES READ AS WHEN THE CALL BEGINS. Each datum BY PROGRAM (the guide's laid-datum.mjs) off the statement by which the dump's own 'gosem.cut.vars' lays the variable. In a bare row this is a premise. The card (YtgocoofcelggcaaGreatDoorCards.lean) ties it to the program's text. -/
def laid_unicode_utf8_acceptRanges {H : Type} : DataW H := .agg [.agg [.lit (.int .u8 128), .lit (.int .u8 191)], .agg [.lit (.int .u8 160), .lit (.int .u8 191)], .agg [.lit (.int .u8 128), .lit (.int .u8 159)], .agg [.lit (.int .u8 144), .lit (.int .u8 191)], .agg [.lit (.int .u8 128), .lit (.int .u8 143)], .agg [.lit (.int .u8 0), .lit (.int .u8 0)], .agg [.lit (.int .u8 0), .lit (.int .u8 0)], .agg [.lit (.int .u8 0), .lit (.int .u8 0)], .agg [.lit (.int .u8 0), .lit (.int .u8 0)], .agg [.lit (.int .u8 0), .lit (.int .u8 0)], .agg [.lit (.int .u8 0), .lit (.int .u8 0)], .agg [.lit (.int .u8 0), .lit (.int .u8 0)], .agg [.lit (.int .u8 0), .lit (.int .u8 0)], .agg [.lit (.int .u8 0), .lit (.int .u8 0)], .agg [.lit (.int .u8 0), .lit (.int .u8 0)], .agg [.lit (.int .u8 0), .lit (.int .u8 0)]]
/-- One of Go's own tables, pinned by name: the form's constant. -/
def laid_unicode_utf8_first : DataW Unit := Go.Pinned.utf8First

/-- 'daybooklaw07.BookOnce': WHATEVER THE INPUT: true; the input reads as it did. -/
def bookOnceSpec : ChangeSpec := { name := "bookOnce", fn := fun _ => fun
  | [d1, d2] => { results := [.lit (.bool true)], args := [d1, d2] }
  | _ => none }
def bookOnceRow : OpenClaim := { program := "ytgocoofcelggcaagreatdoor", sum := "1203cebb2a53a3a927c09a9d9223eb024fb47f3a70e840ebe1b72fbbeb5c8f2e", func := "daybook/daybooklaw07.BookOnce", spec := "bookOnce", inPlace := ["internal/bytealg.IndexByteString", "internal/bytealg.IndexString", "internal/bytealg.CountString", "internal/bytealg.abigen_runtime_cmpstring", "slices.overlaps[*daybook/chart.node]", "math/bits.Add64"], unfollowed := true, recurses := true, named := ["internal/bytealg.MaxLen", "unicode/utf8.first", "unicode/utf8.acceptRanges"], apart := false, laid := [("unicode/utf8.acceptRanges", laid_unicode_utf8_acceptRanges), ("unicode/utf8.first", laid_unicode_utf8_first)] }
def BookOnceSaid : Prop := bookOnceRow.holds Tryz.pinned (OpenSpec.ofChange bookOnceSpec)

/-- ITS FALSE NEIGHBOUR: 'it returns false'. Refute it at one input. -/
def bookOnceWrong : ChangeSpec := { name := "bookOnce", fn := fun _ => fun
  | [d1, d2] => { results := [.lit (.bool false)], args := [d1, d2] }
  | _ => none }
def BookOnceWrongFalsely : Prop := bookOnceRow.holds Tryz.pinned (OpenSpec.ofChange bookOnceWrong)

/-- 'daybooklaw07.BookLocks': WHATEVER THE INPUT: true; the input reads as it did. -/
def bookLocksSpec : ChangeSpec := { name := "bookLocks", fn := fun _ => fun
  | [d] => { results := [.lit (.bool true)], args := [d] }
  | _ => none }
def bookLocksRow : OpenClaim := { program := "ytgocoofcelggcaagreatdoor", sum := "1203cebb2a53a3a927c09a9d9223eb024fb47f3a70e840ebe1b72fbbeb5c8f2e", func := "daybook/daybooklaw07.BookLocks", spec := "bookLocks", inPlace := ["internal/bytealg.IndexByteString", "internal/bytealg.IndexString", "internal/bytealg.CountString", "internal/bytealg.abigen_runtime_cmpstring", "slices.overlaps[*daybook/chart.node]", "math/bits.Add64"], unfollowed := true, recurses := true, named := ["internal/bytealg.MaxLen", "unicode/utf8.first", "unicode/utf8.acceptRanges"], apart := false, laid := [("unicode/utf8.acceptRanges", laid_unicode_utf8_acceptRanges), ("unicode/utf8.first", laid_unicode_utf8_first)] }
def BookLocksSaid : Prop := bookLocksRow.holds Tryz.pinned (OpenSpec.ofChange bookLocksSpec)

/-- ITS FALSE NEIGHBOUR: 'it returns false'. Refute it at one input. -/
def bookLocksWrong : ChangeSpec := { name := "bookLocks", fn := fun _ => fun
  | [d] => { results := [.lit (.bool false)], args := [d] }
  | _ => none }
def BookLocksWrongFalsely : Prop := bookLocksRow.holds Tryz.pinned (OpenSpec.ofChange bookLocksWrong)

/-- 'daybooklaw07.BookClaims': WHATEVER THE INPUT: true; the input reads as it did. -/
def bookClaimsSpec : ChangeSpec := { name := "bookClaims", fn := fun _ => fun
  | [d] => { results := [.lit (.bool true)], args := [d] }
  | _ => none }
def bookClaimsRow : OpenClaim := { program := "ytgocoofcelggcaagreatdoor", sum := "1203cebb2a53a3a927c09a9d9223eb024fb47f3a70e840ebe1b72fbbeb5c8f2e", func := "daybook/daybooklaw07.BookClaims", spec := "bookClaims", inPlace := ["internal/bytealg.IndexByteString", "internal/bytealg.IndexString", "internal/bytealg.CountString", "internal/bytealg.abigen_runtime_cmpstring", "slices.overlaps[*daybook/chart.node]", "math/bits.Add64"], unfollowed := true, recurses := true, named := ["internal/bytealg.MaxLen", "unicode/utf8.first", "unicode/utf8.acceptRanges"], apart := false, laid := [("unicode/utf8.acceptRanges", laid_unicode_utf8_acceptRanges), ("unicode/utf8.first", laid_unicode_utf8_first)] }
def BookClaimsSaid : Prop := bookClaimsRow.holds Tryz.pinned (OpenSpec.ofChange bookClaimsSpec)

/-- ITS FALSE NEIGHBOUR: 'it returns false'. Refute it at one input. -/
def bookClaimsWrong : ChangeSpec := { name := "bookClaims", fn := fun _ => fun
  | [d] => { results := [.lit (.bool false)], args := [d] }
  | _ => none }
def BookClaimsWrongFalsely : Prop := bookClaimsRow.holds Tryz.pinned (OpenSpec.ofChange bookClaimsWrong)

/-- 'daybooklaw07.BookRefused': WHATEVER THE INPUT: true; the input reads as it did. -/
def bookRefusedSpec : ChangeSpec := { name := "bookRefused", fn := fun _ => fun
  | [d] => { results := [.lit (.bool true)], args := [d] }
  | _ => none }
def bookRefusedRow : OpenClaim := { program := "ytgocoofcelggcaagreatdoor", sum := "1203cebb2a53a3a927c09a9d9223eb024fb47f3a70e840ebe1b72fbbeb5c8f2e", func := "daybook/daybooklaw07.BookRefused", spec := "bookRefused", inPlace := ["internal/bytealg.abigen_runtime_cmpstring", "internal/bytealg.IndexByteString", "internal/bytealg.IndexString", "internal/bytealg.CountString", "slices.overlaps[*daybook/chart.node]", "math/bits.Add64"], unfollowed := true, recurses := true, named := ["internal/bytealg.MaxLen", "unicode/utf8.first", "unicode/utf8.acceptRanges"], apart := false, laid := [("unicode/utf8.acceptRanges", laid_unicode_utf8_acceptRanges), ("unicode/utf8.first", laid_unicode_utf8_first)] }
def BookRefusedSaid : Prop := bookRefusedRow.holds Tryz.pinned (OpenSpec.ofChange bookRefusedSpec)

/-- ITS FALSE NEIGHBOUR: 'it returns false'. Refute it at one input. -/
def bookRefusedWrong : ChangeSpec := { name := "bookRefused", fn := fun _ => fun
  | [d] => { results := [.lit (.bool false)], args := [d] }
  | _ => none }
def BookRefusedWrongFalsely : Prop := bookRefusedRow.holds Tryz.pinned (OpenSpec.ofChange bookRefusedWrong)

/-- 'daybooklaw07.BookBalances': WHATEVER THE INPUT: true; the input reads as it did. -/
def bookBalancesSpec : ChangeSpec := { name := "bookBalances", fn := fun _ => fun
  | [d] => { results := [.lit (.bool true)], args := [d] }
  | _ => none }
def bookBalancesRow : OpenClaim := { program := "ytgocoofcelggcaagreatdoor", sum := "1203cebb2a53a3a927c09a9d9223eb024fb47f3a70e840ebe1b72fbbeb5c8f2e", func := "daybook/daybooklaw07.BookBalances", spec := "bookBalances", inPlace := ["internal/bytealg.IndexByteString", "internal/bytealg.IndexString", "internal/bytealg.CountString", "internal/bytealg.abigen_runtime_cmpstring", "slices.overlaps[*daybook/chart.node]", "math/bits.Add64"], unfollowed := true, recurses := true, named := ["internal/bytealg.MaxLen", "unicode/utf8.first", "unicode/utf8.acceptRanges"], apart := false, laid := [("unicode/utf8.acceptRanges", laid_unicode_utf8_acceptRanges), ("unicode/utf8.first", laid_unicode_utf8_first)] }
def BookBalancesSaid : Prop := bookBalancesRow.holds Tryz.pinned (OpenSpec.ofChange bookBalancesSpec)

/-- ITS FALSE NEIGHBOUR: 'it returns false'. Refute it at one input. -/
def bookBalancesWrong : ChangeSpec := { name := "bookBalances", fn := fun _ => fun
  | [d] => { results := [.lit (.bool false)], args := [d] }
  | _ => none }
def BookBalancesWrongFalsely : Prop := bookBalancesRow.holds Tryz.pinned (OpenSpec.ofChange bookBalancesWrong)

/-- 'daybooklaw07.BookVoids': WHATEVER THE INPUT: true; the input reads as it did. -/
def bookVoidsSpec : ChangeSpec := { name := "bookVoids", fn := fun _ => fun
  | [d1, d2, d3] => { results := [.lit (.bool true)], args := [d1, d2, d3] }
  | _ => none }
def bookVoidsRow : OpenClaim := { program := "ytgocoofcelggcaagreatdoor", sum := "1203cebb2a53a3a927c09a9d9223eb024fb47f3a70e840ebe1b72fbbeb5c8f2e", func := "daybook/daybooklaw07.BookVoids", spec := "bookVoids", inPlace := ["internal/bytealg.IndexByteString", "internal/bytealg.IndexString", "internal/bytealg.CountString", "internal/bytealg.abigen_runtime_cmpstring", "slices.overlaps[*daybook/chart.node]", "math/bits.Add64"], unfollowed := true, recurses := true, named := ["internal/bytealg.MaxLen", "unicode/utf8.first", "unicode/utf8.acceptRanges"], apart := false, laid := [("unicode/utf8.acceptRanges", laid_unicode_utf8_acceptRanges), ("unicode/utf8.first", laid_unicode_utf8_first)] }
def BookVoidsSaid : Prop := bookVoidsRow.holds Tryz.pinned (OpenSpec.ofChange bookVoidsSpec)

/-- ITS FALSE NEIGHBOUR: 'it returns false'. Refute it at one input. -/
def bookVoidsWrong : ChangeSpec := { name := "bookVoids", fn := fun _ => fun
  | [d1, d2, d3] => { results := [.lit (.bool false)], args := [d1, d2, d3] }
  | _ => none }
def BookVoidsWrongFalsely : Prop := bookVoidsRow.holds Tryz.pinned (OpenSpec.ofChange bookVoidsWrong)

/-- 'daybooklaw07.BookClosed': WHATEVER THE INPUT: true; the input reads as it did. -/
def bookClosedSpec : ChangeSpec := { name := "bookClosed", fn := fun _ => fun
  | [d] => { results := [.lit (.bool true)], args := [d] }
  | _ => none }
def bookClosedRow : OpenClaim := { program := "ytgocoofcelggcaagreatdoor", sum := "1203cebb2a53a3a927c09a9d9223eb024fb47f3a70e840ebe1b72fbbeb5c8f2e", func := "daybook/daybooklaw07.BookClosed", spec := "bookClosed", inPlace := ["internal/bytealg.abigen_runtime_cmpstring", "internal/bytealg.IndexByteString", "internal/bytealg.IndexString", "internal/bytealg.CountString", "slices.overlaps[*daybook/chart.node]", "math/bits.Add64"], unfollowed := true, recurses := true, named := ["internal/bytealg.MaxLen", "unicode/utf8.first", "unicode/utf8.acceptRanges"], apart := false, laid := [("unicode/utf8.acceptRanges", laid_unicode_utf8_acceptRanges), ("unicode/utf8.first", laid_unicode_utf8_first)] }
def BookClosedSaid : Prop := bookClosedRow.holds Tryz.pinned (OpenSpec.ofChange bookClosedSpec)

/-- ITS FALSE NEIGHBOUR: 'it returns false'. Refute it at one input. -/
def bookClosedWrong : ChangeSpec := { name := "bookClosed", fn := fun _ => fun
  | [d] => { results := [.lit (.bool false)], args := [d] }
  | _ => none }
def BookClosedWrongFalsely : Prop := bookClosedRow.holds Tryz.pinned (OpenSpec.ofChange bookClosedWrong)

/-- 'daybooklaw07.BookSwaps': WHATEVER THE INPUT: true; the input reads as it did. -/
def bookSwapsSpec : ChangeSpec := { name := "bookSwaps", fn := fun _ => fun
  | [d1, d2, d3] => { results := [.lit (.bool true)], args := [d1, d2, d3] }
  | _ => none }
def bookSwapsRow : OpenClaim := { program := "ytgocoofcelggcaagreatdoor", sum := "1203cebb2a53a3a927c09a9d9223eb024fb47f3a70e840ebe1b72fbbeb5c8f2e", func := "daybook/daybooklaw07.BookSwaps", spec := "bookSwaps", inPlace := ["internal/bytealg.IndexByteString", "internal/bytealg.IndexString", "internal/bytealg.CountString", "internal/bytealg.abigen_runtime_cmpstring", "slices.overlaps[*daybook/chart.node]", "math/bits.Add64"], unfollowed := true, recurses := true, named := ["internal/bytealg.MaxLen", "unicode/utf8.first", "unicode/utf8.acceptRanges"], apart := false, laid := [("unicode/utf8.acceptRanges", laid_unicode_utf8_acceptRanges), ("unicode/utf8.first", laid_unicode_utf8_first)] }
def BookSwapsSaid : Prop := bookSwapsRow.holds Tryz.pinned (OpenSpec.ofChange bookSwapsSpec)

/-- ITS FALSE NEIGHBOUR: 'it returns false'. Refute it at one input. -/
def bookSwapsWrong : ChangeSpec := { name := "bookSwaps", fn := fun _ => fun
  | [d1, d2, d3] => { results := [.lit (.bool false)], args := [d1, d2, d3] }
  | _ => none }
def BookSwapsWrongFalsely : Prop := bookSwapsRow.holds Tryz.pinned (OpenSpec.ofChange bookSwapsWrong)

/- THE SECOND FORM. 'bulk': how many values and letters a reading holds, each counted each time it is reached (what is shared counts as often as it is met; a slice's spare places count too). A statement '..UptoSaid' is the law's where the arguments, and the package variables that the reading takes, are together of bulk at most 1048576: NARROWER than '..Said'. Prove '..Said' where nothing that the law and all that it calls make is longer than what came in: it says more and counts as full. Else prove '..UptoSaid'. A law counts once. -/
mutual
def uptoBulk {H : Type} : DataW H → Nat
  | .lit (.string bytes) => bytes.length + 1
  | .lit _ => 1
  | .nil => 1
  | .ptr d => uptoBulk d + 1
  | .slice elems spare => uptoBulkAll elems + uptoBulkAll spare + 1
  | .agg parts => uptoBulkAll parts + 1
  | .iface _ d => uptoBulk d + 1
  | .map entries => uptoBulkEntries entries + 1
  | .held _ => 1
def uptoBulkAll {H : Type} : List (DataW H) → Nat
  | [] => 0
  | d :: r => uptoBulk d + uptoBulkAll r
def uptoBulkEntries {H : Type} : List (Lit × DataW H) → Nat
  | [] => 0
  | x :: r => uptoBulkEntry x + uptoBulkEntries r
def uptoBulkEntry {H : Type} : Lit × DataW H → Nat
  | (.string bytes, d) => bytes.length + uptoBulk d + 1
  | (_, d) => uptoBulk d + 1
 end
def uptoSmall : (H : Type) → List (DataW H) → Bool := fun _ ds => decide (uptoBulkAll ds ≤ 1048576)
def OpenSpec.upto (s : _root_.Go.ChangeSpec) : _root_.Go.OpenSpec := { _root_.Go.OpenSpec.ofChange s with cond := some uptoSmall }

/-- 'daybooklaw07.BookOnce', WHERE WHAT IT READS IS OF BULK AT MOST 1048576: true; the input reads as it did. -/
def bookOnceUptoRow : OpenClaim := { program := "ytgocoofcelggcaagreatdoor", sum := "1203cebb2a53a3a927c09a9d9223eb024fb47f3a70e840ebe1b72fbbeb5c8f2e", func := "daybook/daybooklaw07.BookOnce", spec := "bookOnce", inPlace := ["internal/bytealg.IndexByteString", "internal/bytealg.IndexString", "internal/bytealg.CountString", "internal/bytealg.abigen_runtime_cmpstring", "slices.overlaps[*daybook/chart.node]", "math/bits.Add64"], unfollowed := true, recurses := true, named := ["internal/bytealg.MaxLen", "unicode/utf8.first", "unicode/utf8.acceptRanges"], apart := false, laid := [("unicode/utf8.acceptRanges", laid_unicode_utf8_acceptRanges), ("unicode/utf8.first", laid_unicode_utf8_first)], narrowed := true }
def BookOnceUptoSaid : Prop := bookOnceUptoRow.holds Tryz.pinned (OpenSpec.upto bookOnceSpec)

/-- 'daybooklaw07.BookLocks', WHERE WHAT IT READS IS OF BULK AT MOST 1048576: true; the input reads as it did. -/
def bookLocksUptoRow : OpenClaim := { program := "ytgocoofcelggcaagreatdoor", sum := "1203cebb2a53a3a927c09a9d9223eb024fb47f3a70e840ebe1b72fbbeb5c8f2e", func := "daybook/daybooklaw07.BookLocks", spec := "bookLocks", inPlace := ["internal/bytealg.IndexByteString", "internal/bytealg.IndexString", "internal/bytealg.CountString", "internal/bytealg.abigen_runtime_cmpstring", "slices.overlaps[*daybook/chart.node]", "math/bits.Add64"], unfollowed := true, recurses := true, named := ["internal/bytealg.MaxLen", "unicode/utf8.first", "unicode/utf8.acceptRanges"], apart := false, laid := [("unicode/utf8.acceptRanges", laid_unicode_utf8_acceptRanges), ("unicode/utf8.first", laid_unicode_utf8_first)], narrowed := true }
def BookLocksUptoSaid : Prop := bookLocksUptoRow.holds Tryz.pinned (OpenSpec.upto bookLocksSpec)

/-- 'daybooklaw07.BookClaims', WHERE WHAT IT READS IS OF BULK AT MOST 1048576: true; the input reads as it did. -/
def bookClaimsUptoRow : OpenClaim := { program := "ytgocoofcelggcaagreatdoor", sum := "1203cebb2a53a3a927c09a9d9223eb024fb47f3a70e840ebe1b72fbbeb5c8f2e", func := "daybook/daybooklaw07.BookClaims", spec := "bookClaims", inPlace := ["internal/bytealg.IndexByteString", "internal/bytealg.IndexString", "internal/bytealg.CountString", "internal/bytealg.abigen_runtime_cmpstring", "slices.overlaps[*daybook/chart.node]", "math/bits.Add64"], unfollowed := true, recurses := true, named := ["internal/bytealg.MaxLen", "unicode/utf8.first", "unicode/utf8.acceptRanges"], apart := false, laid := [("unicode/utf8.acceptRanges", laid_unicode_utf8_acceptRanges), ("unicode/utf8.first", laid_unicode_utf8_first)], narrowed := true }
def BookClaimsUptoSaid : Prop := bookClaimsUptoRow.holds Tryz.pinned (OpenSpec.upto bookClaimsSpec)

/-- 'daybooklaw07.BookRefused', WHERE WHAT IT READS IS OF BULK AT MOST 1048576: true; the input reads as it did. -/
def bookRefusedUptoRow : OpenClaim := { program := "ytgocoofcelggcaagreatdoor", sum := "1203cebb2a53a3a927c09a9d9223eb024fb47f3a70e840ebe1b72fbbeb5c8f2e", func := "daybook/daybooklaw07.BookRefused", spec := "bookRefused", inPlace := ["internal/bytealg.abigen_runtime_cmpstring", "internal/bytealg.IndexByteString", "internal/bytealg.IndexString", "internal/bytealg.CountString", "slices.overlaps[*daybook/chart.node]", "math/bits.Add64"], unfollowed := true, recurses := true, named := ["internal/bytealg.MaxLen", "unicode/utf8.first", "unicode/utf8.acceptRanges"], apart := false, laid := [("unicode/utf8.acceptRanges", laid_unicode_utf8_acceptRanges), ("unicode/utf8.first", laid_unicode_utf8_first)], narrowed := true }
def BookRefusedUptoSaid : Prop := bookRefusedUptoRow.holds Tryz.pinned (OpenSpec.upto bookRefusedSpec)

/-- 'daybooklaw07.BookBalances', WHERE WHAT IT READS IS OF BULK AT MOST 1048576: true; the input reads as it did. -/
def bookBalancesUptoRow : OpenClaim := { program := "ytgocoofcelggcaagreatdoor", sum := "1203cebb2a53a3a927c09a9d9223eb024fb47f3a70e840ebe1b72fbbeb5c8f2e", func := "daybook/daybooklaw07.BookBalances", spec := "bookBalances", inPlace := ["internal/bytealg.IndexByteString", "internal/bytealg.IndexString", "internal/bytealg.CountString", "internal/bytealg.abigen_runtime_cmpstring", "slices.overlaps[*daybook/chart.node]", "math/bits.Add64"], unfollowed := true, recurses := true, named := ["internal/bytealg.MaxLen", "unicode/utf8.first", "unicode/utf8.acceptRanges"], apart := false, laid := [("unicode/utf8.acceptRanges", laid_unicode_utf8_acceptRanges), ("unicode/utf8.first", laid_unicode_utf8_first)], narrowed := true }
def BookBalancesUptoSaid : Prop := bookBalancesUptoRow.holds Tryz.pinned (OpenSpec.upto bookBalancesSpec)

/-- 'daybooklaw07.BookVoids', WHERE WHAT IT READS IS OF BULK AT MOST 1048576: true; the input reads as it did. -/
def bookVoidsUptoRow : OpenClaim := { program := "ytgocoofcelggcaagreatdoor", sum := "1203cebb2a53a3a927c09a9d9223eb024fb47f3a70e840ebe1b72fbbeb5c8f2e", func := "daybook/daybooklaw07.BookVoids", spec := "bookVoids", inPlace := ["internal/bytealg.IndexByteString", "internal/bytealg.IndexString", "internal/bytealg.CountString", "internal/bytealg.abigen_runtime_cmpstring", "slices.overlaps[*daybook/chart.node]", "math/bits.Add64"], unfollowed := true, recurses := true, named := ["internal/bytealg.MaxLen", "unicode/utf8.first", "unicode/utf8.acceptRanges"], apart := false, laid := [("unicode/utf8.acceptRanges", laid_unicode_utf8_acceptRanges), ("unicode/utf8.first", laid_unicode_utf8_first)], narrowed := true }
def BookVoidsUptoSaid : Prop := bookVoidsUptoRow.holds Tryz.pinned (OpenSpec.upto bookVoidsSpec)

/-- 'daybooklaw07.BookClosed', WHERE WHAT IT READS IS OF BULK AT MOST 1048576: true; the input reads as it did. -/
def bookClosedUptoRow : OpenClaim := { program := "ytgocoofcelggcaagreatdoor", sum := "1203cebb2a53a3a927c09a9d9223eb024fb47f3a70e840ebe1b72fbbeb5c8f2e", func := "daybook/daybooklaw07.BookClosed", spec := "bookClosed", inPlace := ["internal/bytealg.abigen_runtime_cmpstring", "internal/bytealg.IndexByteString", "internal/bytealg.IndexString", "internal/bytealg.CountString", "slices.overlaps[*daybook/chart.node]", "math/bits.Add64"], unfollowed := true, recurses := true, named := ["internal/bytealg.MaxLen", "unicode/utf8.first", "unicode/utf8.acceptRanges"], apart := false, laid := [("unicode/utf8.acceptRanges", laid_unicode_utf8_acceptRanges), ("unicode/utf8.first", laid_unicode_utf8_first)], narrowed := true }
def BookClosedUptoSaid : Prop := bookClosedUptoRow.holds Tryz.pinned (OpenSpec.upto bookClosedSpec)

/-- 'daybooklaw07.BookSwaps', WHERE WHAT IT READS IS OF BULK AT MOST 1048576: true; the input reads as it did. -/
def bookSwapsUptoRow : OpenClaim := { program := "ytgocoofcelggcaagreatdoor", sum := "1203cebb2a53a3a927c09a9d9223eb024fb47f3a70e840ebe1b72fbbeb5c8f2e", func := "daybook/daybooklaw07.BookSwaps", spec := "bookSwaps", inPlace := ["internal/bytealg.IndexByteString", "internal/bytealg.IndexString", "internal/bytealg.CountString", "internal/bytealg.abigen_runtime_cmpstring", "slices.overlaps[*daybook/chart.node]", "math/bits.Add64"], unfollowed := true, recurses := true, named := ["internal/bytealg.MaxLen", "unicode/utf8.first", "unicode/utf8.acceptRanges"], apart := false, laid := [("unicode/utf8.acceptRanges", laid_unicode_utf8_acceptRanges), ("unicode/utf8.first", laid_unicode_utf8_first)], narrowed := true }
def BookSwapsUptoSaid : Prop := bookSwapsUptoRow.holds Tryz.pinned (OpenSpec.upto bookSwapsSpec)

end Rows
end Go.Proofs.YtgocoofcelggcaaGreatDoor
