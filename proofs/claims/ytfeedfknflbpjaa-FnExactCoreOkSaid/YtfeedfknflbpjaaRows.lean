/-
  No cell of these rows narrows 'for every input' (looked for: loops, veiled, ifaces, maps, wideKeys, modest, calm, conditions, laid).
  DERIVED. THE GIVEN ROWS OF THIS SEAT. 7 by the template 'for every input the law returns true; each argument reads behind the call as it read before'; 0 by the template 'total and deterministic' (their statements: YtfeedfknflbpjaaTotals.lean).
  GIVEN WITH THE SEED: the statements are not yours to turn. If you find one false, say at which input.
  Laid BY PROGRAM, IN A SANDBOX (cutbox-rows.mjs): the forced cells as the released guide's own fill.sh prints them over the translation 698797abe2ce1794… (all of the seat's roots in one cut). By AI agents, Wed Nov 11 2026. No macro, syntax, notation, axiom, sorry.
-/
import Derived.Test.YtfeedfknflbpjaaChecked
import GoSem.Claim
import GoSem.ClaimJoined
import GoSem.ClaimMapViews
import Derived.JoinedTies
import Derived.KernelRfl
namespace Go.Proofs.Ytfeedfknflbpjaa
/- THE CELL 'sum', in the pinned program and in every row, IS THE sha256 OF THE DUMP (.gsa) THAT YtfeedfknflbpjaaProg.lean LOADS. Nothing in Lean hashes anything: it is a label: what it is worth is what the hold of that sum in a sandbox is worth. -/
noncomputable def Try.pinned : Pinned := { name := "ytfeedfknflbpjaa", sum := "698797abe2ce1794b85a9ec79c428e5c2d933175b13ac3a15af4881d384d1dfd", checked := Try.checked }
namespace Rows
def none {H : Type} : Left H := { results := [], args := [] }

/-- 'laws.FnExactNewKeeper': WHATEVER THE INPUT: true; the input reads as it did. -/
def fnExactNewKeeperSpec : ChangeSpec := { name := "fnExactNewKeeper", fn := fun _ => fun
  | [d] => { results := [.lit (.bool true)], args := [d] }
  | _ => none }
def fnExactNewKeeperRow : OpenClaim := { program := "ytfeedfknflbpjaa", sum := "698797abe2ce1794b85a9ec79c428e5c2d933175b13ac3a15af4881d384d1dfd", func := "loop.example/g00526/laws.FnExactNewKeeper", spec := "fnExactNewKeeper", apart := false }
def FnExactNewKeeperSaid : Prop := fnExactNewKeeperRow.holds Try.pinned (OpenSpec.ofChange fnExactNewKeeperSpec)

/-- ITS FALSE NEIGHBOUR: 'it returns false'. Refute it at one input. -/
def fnExactNewKeeperWrong : ChangeSpec := { name := "fnExactNewKeeper", fn := fun _ => fun
  | [d] => { results := [.lit (.bool false)], args := [d] }
  | _ => none }
def FnExactNewKeeperWrongFalsely : Prop := fnExactNewKeeperRow.holds Try.pinned (OpenSpec.ofChange fnExactNewKeeperWrong)

/-- 'laws.FnExactCoreOk': WHATEVER THE INPUT: true; the input reads as it did. -/
def fnExactCoreOkSpec : ChangeSpec := { name := "fnExactCoreOk", fn := fun _ => fun
  | [d] => { results := [.lit (.bool true)], args := [d] }
  | _ => none }
def fnExactCoreOkRow : OpenClaim := { program := "ytfeedfknflbpjaa", sum := "698797abe2ce1794b85a9ec79c428e5c2d933175b13ac3a15af4881d384d1dfd", func := "loop.example/g00526/laws.FnExactCoreOk", spec := "fnExactCoreOk", unfollowed := true, recurses := true, apart := false }
def FnExactCoreOkSaid : Prop := fnExactCoreOkRow.holds Try.pinned (OpenSpec.ofChange fnExactCoreOkSpec)

/-- ITS FALSE NEIGHBOUR: 'it returns false'. Refute it at one input. -/
def fnExactCoreOkWrong : ChangeSpec := { name := "fnExactCoreOk", fn := fun _ => fun
  | [d] => { results := [.lit (.bool false)], args := [d] }
  | _ => none }
def FnExactCoreOkWrongFalsely : Prop := fnExactCoreOkRow.holds Try.pinned (OpenSpec.ofChange fnExactCoreOkWrong)

/-- 'laws.FnExactNewCore': WHATEVER THE INPUT: true; the input reads as it did. -/
def fnExactNewCoreSpec : ChangeSpec := { name := "fnExactNewCore", fn := fun _ => fun
  | [d1, d2] => { results := [.lit (.bool true)], args := [d1, d2] }
  | _ => none }
def fnExactNewCoreRow : OpenClaim := { program := "ytfeedfknflbpjaa", sum := "698797abe2ce1794b85a9ec79c428e5c2d933175b13ac3a15af4881d384d1dfd", func := "loop.example/g00526/laws.FnExactNewCore", spec := "fnExactNewCore", apart := false }
def FnExactNewCoreSaid : Prop := fnExactNewCoreRow.holds Try.pinned (OpenSpec.ofChange fnExactNewCoreSpec)

/-- ITS FALSE NEIGHBOUR: 'it returns false'. Refute it at one input. -/
def fnExactNewCoreWrong : ChangeSpec := { name := "fnExactNewCore", fn := fun _ => fun
  | [d1, d2] => { results := [.lit (.bool false)], args := [d1, d2] }
  | _ => none }
def FnExactNewCoreWrongFalsely : Prop := fnExactNewCoreRow.holds Try.pinned (OpenSpec.ofChange fnExactNewCoreWrong)

/-- 'laws.FnExactLetterOk': WHATEVER THE INPUT: true; the input reads as it did. -/
def fnExactLetterOkSpec : ChangeSpec := { name := "fnExactLetterOk", fn := fun _ => fun
  | [d] => { results := [.lit (.bool true)], args := [d] }
  | _ => none }
def fnExactLetterOkRow : OpenClaim := { program := "ytfeedfknflbpjaa", sum := "698797abe2ce1794b85a9ec79c428e5c2d933175b13ac3a15af4881d384d1dfd", func := "loop.example/g00526/laws.FnExactLetterOk", spec := "fnExactLetterOk", inPlace := ["internal/bytealg.IndexByteString", "internal/bytealg.IndexString"], unfollowed := true, recurses := true, named := ["internal/bytealg.MaxLen"], apart := false }
def FnExactLetterOkSaid : Prop := fnExactLetterOkRow.holds Try.pinned (OpenSpec.ofChange fnExactLetterOkSpec)

/-- ITS FALSE NEIGHBOUR: 'it returns false'. Refute it at one input. -/
def fnExactLetterOkWrong : ChangeSpec := { name := "fnExactLetterOk", fn := fun _ => fun
  | [d] => { results := [.lit (.bool false)], args := [d] }
  | _ => none }
def FnExactLetterOkWrongFalsely : Prop := fnExactLetterOkRow.holds Try.pinned (OpenSpec.ofChange fnExactLetterOkWrong)

/-- 'laws.FnExactOrderOk': WHATEVER THE INPUT: true; the input reads as it did. -/
def fnExactOrderOkSpec : ChangeSpec := { name := "fnExactOrderOk", fn := fun _ => fun
  | [d] => { results := [.lit (.bool true)], args := [d] }
  | _ => none }
def fnExactOrderOkRow : OpenClaim := { program := "ytfeedfknflbpjaa", sum := "698797abe2ce1794b85a9ec79c428e5c2d933175b13ac3a15af4881d384d1dfd", func := "loop.example/g00526/laws.FnExactOrderOk", spec := "fnExactOrderOk", inPlace := ["internal/bytealg.IndexByteString", "internal/bytealg.IndexString"], unfollowed := true, recurses := true, named := ["internal/bytealg.MaxLen"], apart := false }
def FnExactOrderOkSaid : Prop := fnExactOrderOkRow.holds Try.pinned (OpenSpec.ofChange fnExactOrderOkSpec)

/-- ITS FALSE NEIGHBOUR: 'it returns false'. Refute it at one input. -/
def fnExactOrderOkWrong : ChangeSpec := { name := "fnExactOrderOk", fn := fun _ => fun
  | [d] => { results := [.lit (.bool false)], args := [d] }
  | _ => none }
def FnExactOrderOkWrongFalsely : Prop := fnExactOrderOkRow.holds Try.pinned (OpenSpec.ofChange fnExactOrderOkWrong)

/-- 'laws.FnExactChecked': WHATEVER THE INPUT: true; the input reads as it did. -/
def fnExactCheckedSpec : ChangeSpec := { name := "fnExactChecked", fn := fun _ => fun
  | [d] => { results := [.lit (.bool true)], args := [d] }
  | _ => none }
def fnExactCheckedRow : OpenClaim := { program := "ytfeedfknflbpjaa", sum := "698797abe2ce1794b85a9ec79c428e5c2d933175b13ac3a15af4881d384d1dfd", func := "loop.example/g00526/laws.FnExactChecked", spec := "fnExactChecked", unfollowed := true, recurses := true, apart := false }
def FnExactCheckedSaid : Prop := fnExactCheckedRow.holds Try.pinned (OpenSpec.ofChange fnExactCheckedSpec)

/-- ITS FALSE NEIGHBOUR: 'it returns false'. Refute it at one input. -/
def fnExactCheckedWrong : ChangeSpec := { name := "fnExactChecked", fn := fun _ => fun
  | [d] => { results := [.lit (.bool false)], args := [d] }
  | _ => none }
def FnExactCheckedWrongFalsely : Prop := fnExactCheckedRow.holds Try.pinned (OpenSpec.ofChange fnExactCheckedWrong)

/-- 'laws.FnExactNewBook': WHATEVER THE INPUT: true; the input reads as it did. -/
def fnExactNewBookSpec : ChangeSpec := { name := "fnExactNewBook", fn := fun _ => fun
  | [] => { results := [.lit (.bool true)], args := [] }
  | _ => none }
def fnExactNewBookRow : OpenClaim := { program := "ytfeedfknflbpjaa", sum := "698797abe2ce1794b85a9ec79c428e5c2d933175b13ac3a15af4881d384d1dfd", func := "loop.example/g00526/laws.FnExactNewBook", spec := "fnExactNewBook", apart := false }
def FnExactNewBookSaid : Prop := fnExactNewBookRow.holds Try.pinned (OpenSpec.ofChange fnExactNewBookSpec)

/-- ITS FALSE NEIGHBOUR: 'it returns false'. Refute it at one input. -/
def fnExactNewBookWrong : ChangeSpec := { name := "fnExactNewBook", fn := fun _ => fun
  | [] => { results := [.lit (.bool false)], args := [] }
  | _ => none }
def FnExactNewBookWrongFalsely : Prop := fnExactNewBookRow.holds Try.pinned (OpenSpec.ofChange fnExactNewBookWrong)

/- THE SECOND FORM. 'bulk': how many values and letters a reading holds, each counted each time it is reached (what is shared counts as often as it is met; a slice's spare places count too). A statement '..UptoSaid' is the law's where the arguments, and the package variables that the reading takes, are together of bulk at most 1048576: NARROWER than '..Said'. Prove '..Said' where nothing that the law and all that it calls make is longer than what came in: it says more and counts as full. Else prove '..UptoSaid'. A law counts once. -/
mutual
def uptoBulk {H : Type} : DataW H → Nat
  | .lit (.string bytes) => bytes.length + 1
  | .lit _ => 1
  | .nil => 1
  | .ptr d => uptoBulk d + 1
  | .slice elems spare => uptoBulkAll elems + uptoBulkAll spare + 1
  | .agg parts => uptoBulkAll parts + 1
  | .iface _ d => uptoBulk d + 1
  | .map entries => uptoBulkEntries entries + 1
  | .held _ => 1
def uptoBulkAll {H : Type} : List (DataW H) → Nat
  | [] => 0
  | d :: r => uptoBulk d + uptoBulkAll r
def uptoBulkEntries {H : Type} : List (Lit × DataW H) → Nat
  | [] => 0
  | x :: r => uptoBulkEntry x + uptoBulkEntries r
def uptoBulkEntry {H : Type} : Lit × DataW H → Nat
  | (.string bytes, d) => bytes.length + uptoBulk d + 1
  | (_, d) => uptoBulk d + 1
 end
def uptoSmall : (H : Type) → List (DataW H) → Bool := fun _ ds => decide (uptoBulkAll ds ≤ 1048576)
def OpenSpec.upto (s : _root_.Go.ChangeSpec) : _root_.Go.OpenSpec := { _root_.Go.OpenSpec.ofChange s with cond := some uptoSmall }

/-- 'laws.FnExactNewKeeper', WHERE WHAT IT READS IS OF BULK AT MOST 1048576: true; the input reads as it did. -/
def fnExactNewKeeperUptoRow : OpenClaim := { program := "ytfeedfknflbpjaa", sum := "698797abe2ce1794b85a9ec79c428e5c2d933175b13ac3a15af4881d384d1dfd", func := "loop.example/g00526/laws.FnExactNewKeeper", spec := "fnExactNewKeeper", apart := false, narrowed := true }
def FnExactNewKeeperUptoSaid : Prop := fnExactNewKeeperUptoRow.holds Try.pinned (OpenSpec.upto fnExactNewKeeperSpec)

/-- 'laws.FnExactCoreOk', WHERE WHAT IT READS IS OF BULK AT MOST 1048576: true; the input reads as it did. -/
def fnExactCoreOkUptoRow : OpenClaim := { program := "ytfeedfknflbpjaa", sum := "698797abe2ce1794b85a9ec79c428e5c2d933175b13ac3a15af4881d384d1dfd", func := "loop.example/g00526/laws.FnExactCoreOk", spec := "fnExactCoreOk", unfollowed := true, recurses := true, apart := false, narrowed := true }
def FnExactCoreOkUptoSaid : Prop := fnExactCoreOkUptoRow.holds Try.pinned (OpenSpec.upto fnExactCoreOkSpec)

/-- 'laws.FnExactNewCore', WHERE WHAT IT READS IS OF BULK AT MOST 1048576: true; the input reads as it did. -/
def fnExactNewCoreUptoRow : OpenClaim := { program := "ytfeedfknflbpjaa", sum := "698797abe2ce1794b85a9ec79c428e5c2d933175b13ac3a15af4881d384d1dfd", func := "loop.example/g00526/laws.FnExactNewCore", spec := "fnExactNewCore", apart := false, narrowed := true }
def FnExactNewCoreUptoSaid : Prop := fnExactNewCoreUptoRow.holds Try.pinned (OpenSpec.upto fnExactNewCoreSpec)

/-- 'laws.FnExactLetterOk', WHERE WHAT IT READS IS OF BULK AT MOST 1048576: true; the input reads as it did. -/
def fnExactLetterOkUptoRow : OpenClaim := { program := "ytfeedfknflbpjaa", sum := "698797abe2ce1794b85a9ec79c428e5c2d933175b13ac3a15af4881d384d1dfd", func := "loop.example/g00526/laws.FnExactLetterOk", spec := "fnExactLetterOk", inPlace := ["internal/bytealg.IndexByteString", "internal/bytealg.IndexString"], unfollowed := true, recurses := true, named := ["internal/bytealg.MaxLen"], apart := false, narrowed := true }
def FnExactLetterOkUptoSaid : Prop := fnExactLetterOkUptoRow.holds Try.pinned (OpenSpec.upto fnExactLetterOkSpec)

/-- 'laws.FnExactOrderOk', WHERE WHAT IT READS IS OF BULK AT MOST 1048576: true; the input reads as it did. -/
def fnExactOrderOkUptoRow : OpenClaim := { program := "ytfeedfknflbpjaa", sum := "698797abe2ce1794b85a9ec79c428e5c2d933175b13ac3a15af4881d384d1dfd", func := "loop.example/g00526/laws.FnExactOrderOk", spec := "fnExactOrderOk", inPlace := ["internal/bytealg.IndexByteString", "internal/bytealg.IndexString"], unfollowed := true, recurses := true, named := ["internal/bytealg.MaxLen"], apart := false, narrowed := true }
def FnExactOrderOkUptoSaid : Prop := fnExactOrderOkUptoRow.holds Try.pinned (OpenSpec.upto fnExactOrderOkSpec)

/-- 'laws.FnExactChecked', WHERE WHAT IT READS IS OF BULK AT MOST 1048576: true; the input reads as it did. -/
def fnExactCheckedUptoRow : OpenClaim := { program := "ytfeedfknflbpjaa", sum := "698797abe2ce1794b85a9ec79c428e5c2d933175b13ac3a15af4881d384d1dfd", func := "loop.example/g00526/laws.FnExactChecked", spec := "fnExactChecked", unfollowed := true, recurses := true, apart := false, narrowed := true }
def FnExactCheckedUptoSaid : Prop := fnExactCheckedUptoRow.holds Try.pinned (OpenSpec.upto fnExactCheckedSpec)

/-- 'laws.FnExactNewBook', WHERE WHAT IT READS IS OF BULK AT MOST 1048576: true; the input reads as it did. -/
def fnExactNewBookUptoRow : OpenClaim := { program := "ytfeedfknflbpjaa", sum := "698797abe2ce1794b85a9ec79c428e5c2d933175b13ac3a15af4881d384d1dfd", func := "loop.example/g00526/laws.FnExactNewBook", spec := "fnExactNewBook", apart := false, narrowed := true }
def FnExactNewBookUptoSaid : Prop := fnExactNewBookUptoRow.holds Try.pinned (OpenSpec.upto fnExactNewBookSpec)

end Rows
end Go.Proofs.Ytfeedfknflbpjaa
