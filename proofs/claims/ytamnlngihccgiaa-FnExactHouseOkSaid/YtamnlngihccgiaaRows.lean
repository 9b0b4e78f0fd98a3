/-
  No cell of these rows narrows 'for every input' (looked for: loops, veiled, ifaces, maps, wideKeys, modest, calm, conditions, laid).
  DERIVED. THE GIVEN ROWS OF THIS SEAT. 11 by the template 'for every input the law returns true; each argument reads behind the call as it read before'; 0 by the template 'total and deterministic' (their statements: YtamnlngihccgiaaTotals.lean).
  GIVEN WITH THE SEED: the statements are not yours to turn. If you find one false, say at which input.
  Laid BY PROGRAM, IN A SANDBOX (cutbox-rows.mjs): the forced cells as the released guide's own fill.sh prints them over the translation c5ce87d83fc7db89… (all of the seat's roots in one cut). By AI agents, Wed Nov 11 2026. No macro, syntax, notation, axiom, sorry.
-/
import Derived.Test.YtamnlngihccgiaaChecked
import GoSem.Claim
import GoSem.ClaimJoined
import GoSem.ClaimMapViews
import Derived.JoinedTies
import Derived.KernelRfl
namespace Go.Proofs.Ytamnlngihccgiaa
/- THE CELL 'sum', in the pinned program and in every row, IS THE sha256 OF THE DUMP (.gsa) THAT YtamnlngihccgiaaProg.lean LOADS. Nothing in Lean hashes anything: it is a label: what it is worth is what the hold of that sum in a sandbox is worth. -/
noncomputable def Try.pinned : Pinned := { name := "ytamnlngihccgiaa", sum := "c5ce87d83fc7db89b88dedfff707a9ed12ae8b99c7024749704f8b673cce216f", checked := Try.checked }
namespace Rows
def none {H : Type} : Left H := { results := [], args := [] }

/-- 'laws.FnExactKeeperOk': WHATEVER THE INPUT: true; the input reads as it did. -/
def fnExactKeeperOkSpec : ChangeSpec := { name := "fnExactKeeperOk", fn := fun _ => fun
  | [d] => { results := [.lit (.bool true)], args := [d] }
  | _ => none }
def fnExactKeeperOkRow : OpenClaim := { program := "ytamnlngihccgiaa", sum := "c5ce87d83fc7db89b88dedfff707a9ed12ae8b99c7024749704f8b673cce216f", func := "loop.example/g00526/laws.FnExactKeeperOk", spec := "fnExactKeeperOk", inPlace := ["internal/bytealg.IndexByteString", "internal/bytealg.IndexString"], unfollowed := true, recurses := true, named := ["internal/bytealg.MaxLen"], apart := false }
def FnExactKeeperOkSaid : Prop := fnExactKeeperOkRow.holds Try.pinned (OpenSpec.ofChange fnExactKeeperOkSpec)

/-- ITS FALSE NEIGHBOUR: 'it returns false'. Refute it at one input. -/
def fnExactKeeperOkWrong : ChangeSpec := { name := "fnExactKeeperOk", fn := fun _ => fun
  | [d] => { results := [.lit (.bool false)], args := [d] }
  | _ => none }
def FnExactKeeperOkWrongFalsely : Prop := fnExactKeeperOkRow.holds Try.pinned (OpenSpec.ofChange fnExactKeeperOkWrong)

/-- 'laws.FnExactLastOf': WHATEVER THE INPUT: true; the input reads as it did. -/
def fnExactLastOfSpec : ChangeSpec := { name := "fnExactLastOf", fn := fun _ => fun
  | [d] => { results := [.lit (.bool true)], args := [d] }
  | _ => none }
def fnExactLastOfRow : OpenClaim := { program := "ytamnlngihccgiaa", sum := "c5ce87d83fc7db89b88dedfff707a9ed12ae8b99c7024749704f8b673cce216f", func := "loop.example/g00526/laws.FnExactLastOf", spec := "fnExactLastOf", inPlace := ["internal/bytealg.IndexByteString", "internal/bytealg.IndexString"], unfollowed := true, recurses := true, named := ["internal/bytealg.MaxLen"], apart := false }
def FnExactLastOfSaid : Prop := fnExactLastOfRow.holds Try.pinned (OpenSpec.ofChange fnExactLastOfSpec)

/-- ITS FALSE NEIGHBOUR: 'it returns false'. Refute it at one input. -/
def fnExactLastOfWrong : ChangeSpec := { name := "fnExactLastOf", fn := fun _ => fun
  | [d] => { results := [.lit (.bool false)], args := [d] }
  | _ => none }
def FnExactLastOfWrongFalsely : Prop := fnExactLastOfRow.holds Try.pinned (OpenSpec.ofChange fnExactLastOfWrong)

/-- 'laws.FnExactNewHouse': WHATEVER THE INPUT: true; the input reads as it did. -/
def fnExactNewHouseSpec : ChangeSpec := { name := "fnExactNewHouse", fn := fun _ => fun
  | [] => { results := [.lit (.bool true)], args := [] }
  | _ => none }
def fnExactNewHouseRow : OpenClaim := { program := "ytamnlngihccgiaa", sum := "c5ce87d83fc7db89b88dedfff707a9ed12ae8b99c7024749704f8b673cce216f", func := "loop.example/g00526/laws.FnExactNewHouse", spec := "fnExactNewHouse", apart := false }
def FnExactNewHouseSaid : Prop := fnExactNewHouseRow.holds Try.pinned (OpenSpec.ofChange fnExactNewHouseSpec)

/-- ITS FALSE NEIGHBOUR: 'it returns false'. Refute it at one input. -/
def fnExactNewHouseWrong : ChangeSpec := { name := "fnExactNewHouse", fn := fun _ => fun
  | [] => { results := [.lit (.bool false)], args := [] }
  | _ => none }
def FnExactNewHouseWrongFalsely : Prop := fnExactNewHouseRow.holds Try.pinned (OpenSpec.ofChange fnExactNewHouseWrong)

/-- 'laws.FnExactSureOf': WHATEVER THE INPUT: true; the input reads as it did. -/
def fnExactSureOfSpec : ChangeSpec := { name := "fnExactSureOf", fn := fun _ => fun
  | [d] => { results := [.lit (.bool true)], args := [d] }
  | _ => none }
def fnExactSureOfRow : OpenClaim := { program := "ytamnlngihccgiaa", sum := "c5ce87d83fc7db89b88dedfff707a9ed12ae8b99c7024749704f8b673cce216f", func := "loop.example/g00526/laws.FnExactSureOf", spec := "fnExactSureOf", inPlace := ["internal/bytealg.IndexByteString", "internal/bytealg.IndexString"], unfollowed := true, recurses := true, named := ["internal/bytealg.MaxLen"], apart := false }
def FnExactSureOfSaid : Prop := fnExactSureOfRow.holds Try.pinned (OpenSpec.ofChange fnExactSureOfSpec)

/-- ITS FALSE NEIGHBOUR: 'it returns false'. Refute it at one input. -/
def fnExactSureOfWrong : ChangeSpec := { name := "fnExactSureOf", fn := fun _ => fun
  | [d] => { results := [.lit (.bool false)], args := [d] }
  | _ => none }
def FnExactSureOfWrongFalsely : Prop := fnExactSureOfRow.holds Try.pinned (OpenSpec.ofChange fnExactSureOfWrong)

/-- 'laws.FnExactRises': WHATEVER THE INPUT: true; the input reads as it did. -/
def fnExactRisesSpec : ChangeSpec := { name := "fnExactRises", fn := fun _ => fun
  | [d] => { results := [.lit (.bool true)], args := [d] }
  | _ => none }
def fnExactRisesRow : OpenClaim := { program := "ytamnlngihccgiaa", sum := "c5ce87d83fc7db89b88dedfff707a9ed12ae8b99c7024749704f8b673cce216f", func := "loop.example/g00526/laws.FnExactRises", spec := "fnExactRises", inPlace := ["internal/bytealg.IndexByteString", "internal/bytealg.IndexString"], unfollowed := true, recurses := true, named := ["internal/bytealg.MaxLen"], apart := false }
def FnExactRisesSaid : Prop := fnExactRisesRow.holds Try.pinned (OpenSpec.ofChange fnExactRisesSpec)

/-- ITS FALSE NEIGHBOUR: 'it returns false'. Refute it at one input. -/
def fnExactRisesWrong : ChangeSpec := { name := "fnExactRises", fn := fun _ => fun
  | [d] => { results := [.lit (.bool false)], args := [d] }
  | _ => none }
def FnExactRisesWrongFalsely : Prop := fnExactRisesRow.holds Try.pinned (OpenSpec.ofChange fnExactRisesWrong)

/-- 'laws.FnExactSends': WHATEVER THE INPUT: true; the input reads as it did. -/
def fnExactSendsSpec : ChangeSpec := { name := "fnExactSends", fn := fun _ => fun
  | [d1, d2] => { results := [.lit (.bool true)], args := [d1, d2] }
  | _ => none }
def fnExactSendsRow : OpenClaim := { program := "ytamnlngihccgiaa", sum := "c5ce87d83fc7db89b88dedfff707a9ed12ae8b99c7024749704f8b673cce216f", func := "loop.example/g00526/laws.FnExactSends", spec := "fnExactSends", inPlace := ["internal/bytealg.IndexByteString", "internal/bytealg.IndexString"], unfollowed := true, recurses := true, named := ["internal/bytealg.MaxLen"], apart := false }
def FnExactSendsSaid : Prop := fnExactSendsRow.holds Try.pinned (OpenSpec.ofChange fnExactSendsSpec)

/-- ITS FALSE NEIGHBOUR: 'it returns false'. Refute it at one input. -/
def fnExactSendsWrong : ChangeSpec := { name := "fnExactSends", fn := fun _ => fun
  | [d1, d2] => { results := [.lit (.bool false)], args := [d1, d2] }
  | _ => none }
def FnExactSendsWrongFalsely : Prop := fnExactSendsRow.holds Try.pinned (OpenSpec.ofChange fnExactSendsWrong)

/-- 'laws.FnExactHouseOk': WHATEVER THE INPUT: true; the input reads as it did. -/
def fnExactHouseOkSpec : ChangeSpec := { name := "fnExactHouseOk", fn := fun _ => fun
  | [d] => { results := [.lit (.bool true)], args := [d] }
  | _ => none }
def fnExactHouseOkRow : OpenClaim := { program := "ytamnlngihccgiaa", sum := "c5ce87d83fc7db89b88dedfff707a9ed12ae8b99c7024749704f8b673cce216f", func := "loop.example/g00526/laws.FnExactHouseOk", spec := "fnExactHouseOk", inPlace := ["internal/bytealg.IndexByteString", "internal/bytealg.IndexString"], unfollowed := true, recurses := true, named := ["internal/bytealg.MaxLen"], apart := false }
def FnExactHouseOkSaid : Prop := fnExactHouseOkRow.holds Try.pinned (OpenSpec.ofChange fnExactHouseOkSpec)

/-- ITS FALSE NEIGHBOUR: 'it returns false'. Refute it at one input. -/
def fnExactHouseOkWrong : ChangeSpec := { name := "fnExactHouseOk", fn := fun _ => fun
  | [d] => { results := [.lit (.bool false)], args := [d] }
  | _ => none }
def FnExactHouseOkWrongFalsely : Prop := fnExactHouseOkRow.holds Try.pinned (OpenSpec.ofChange fnExactHouseOkWrong)

/-- 'laws.FnExactAsks': WHATEVER THE INPUT: true; the input reads as it did. -/
def fnExactAsksSpec : ChangeSpec := { name := "fnExactAsks", fn := fun _ => fun
  | [d] => { results := [.lit (.bool true)], args := [d] }
  | _ => none }
def fnExactAsksRow : OpenClaim := { program := "ytamnlngihccgiaa", sum := "c5ce87d83fc7db89b88dedfff707a9ed12ae8b99c7024749704f8b673cce216f", func := "loop.example/g00526/laws.FnExactAsks", spec := "fnExactAsks", inPlace := ["internal/bytealg.IndexByteString", "internal/bytealg.IndexString"], unfollowed := true, recurses := true, named := ["internal/bytealg.MaxLen"], apart := false }
def FnExactAsksSaid : Prop := fnExactAsksRow.holds Try.pinned (OpenSpec.ofChange fnExactAsksSpec)

/-- ITS FALSE NEIGHBOUR: 'it returns false'. Refute it at one input. -/
def fnExactAsksWrong : ChangeSpec := { name := "fnExactAsks", fn := fun _ => fun
  | [d] => { results := [.lit (.bool false)], args := [d] }
  | _ => none }
def FnExactAsksWrongFalsely : Prop := fnExactAsksRow.holds Try.pinned (OpenSpec.ofChange fnExactAsksWrong)

/-- 'laws.FnExactAgree': WHATEVER THE INPUT: true; the input reads as it did. -/
def fnExactAgreeSpec : ChangeSpec := { name := "fnExactAgree", fn := fun _ => fun
  | [d] => { results := [.lit (.bool true)], args := [d] }
  | _ => none }
def fnExactAgreeRow : OpenClaim := { program := "ytamnlngihccgiaa", sum := "c5ce87d83fc7db89b88dedfff707a9ed12ae8b99c7024749704f8b673cce216f", func := "loop.example/g00526/laws.FnExactAgree", spec := "fnExactAgree", inPlace := ["internal/bytealg.IndexByteString", "internal/bytealg.IndexString"], unfollowed := true, recurses := true, named := ["internal/bytealg.MaxLen"], apart := false }
def FnExactAgreeSaid : Prop := fnExactAgreeRow.holds Try.pinned (OpenSpec.ofChange fnExactAgreeSpec)

/-- ITS FALSE NEIGHBOUR: 'it returns false'. Refute it at one input. -/
def fnExactAgreeWrong : ChangeSpec := { name := "fnExactAgree", fn := fun _ => fun
  | [d] => { results := [.lit (.bool false)], args := [d] }
  | _ => none }
def FnExactAgreeWrongFalsely : Prop := fnExactAgreeRow.holds Try.pinned (OpenSpec.ofChange fnExactAgreeWrong)

/-- 'laws.FnExactLeaders': WHATEVER THE INPUT: true; the input reads as it did. -/
def fnExactLeadersSpec : ChangeSpec := { name := "fnExactLeaders", fn := fun _ => fun
  | [d] => { results := [.lit (.bool true)], args := [d] }
  | _ => none }
def fnExactLeadersRow : OpenClaim := { program := "ytamnlngihccgiaa", sum := "c5ce87d83fc7db89b88dedfff707a9ed12ae8b99c7024749704f8b673cce216f", func := "loop.example/g00526/laws.FnExactLeaders", spec := "fnExactLeaders", inPlace := ["internal/bytealg.IndexByteString", "internal/bytealg.IndexString"], unfollowed := true, recurses := true, named := ["internal/bytealg.MaxLen"], apart := false }
def FnExactLeadersSaid : Prop := fnExactLeadersRow.holds Try.pinned (OpenSpec.ofChange fnExactLeadersSpec)

/-- ITS FALSE NEIGHBOUR: 'it returns false'. Refute it at one input. -/
def fnExactLeadersWrong : ChangeSpec := { name := "fnExactLeaders", fn := fun _ => fun
  | [d] => { results := [.lit (.bool false)], args := [d] }
  | _ => none }
def FnExactLeadersWrongFalsely : Prop := fnExactLeadersRow.holds Try.pinned (OpenSpec.ofChange fnExactLeadersWrong)

/-- 'laws.FnExactHears': WHATEVER THE INPUT: true; the input reads as it did. -/
def fnExactHearsSpec : ChangeSpec := { name := "fnExactHears", fn := fun _ => fun
  | [d1, d2] => { results := [.lit (.bool true)], args := [d1, d2] }
  | _ => none }
def fnExactHearsRow : OpenClaim := { program := "ytamnlngihccgiaa", sum := "c5ce87d83fc7db89b88dedfff707a9ed12ae8b99c7024749704f8b673cce216f", func := "loop.example/g00526/laws.FnExactHears", spec := "fnExactHears", inPlace := ["internal/bytealg.IndexByteString", "internal/bytealg.IndexString"], unfollowed := true, recurses := true, named := ["internal/bytealg.MaxLen"], apart := false }
def FnExactHearsSaid : Prop := fnExactHearsRow.holds Try.pinned (OpenSpec.ofChange fnExactHearsSpec)

/-- ITS FALSE NEIGHBOUR: 'it returns false'. Refute it at one input. -/
def fnExactHearsWrong : ChangeSpec := { name := "fnExactHears", fn := fun _ => fun
  | [d1, d2] => { results := [.lit (.bool false)], args := [d1, d2] }
  | _ => none }
def FnExactHearsWrongFalsely : Prop := fnExactHearsRow.holds Try.pinned (OpenSpec.ofChange fnExactHearsWrong)

/- THE SECOND FORM. 'bulk': how many values and letters a reading holds, each counted each time it is reached (what is shared counts as often as it is met; a slice's spare places count too). A statement '..UptoSaid' is the law's where the arguments, and the package variables that the reading takes, are together of bulk at most 1048576: NARROWER than '..Said'. Prove '..Said' where nothing that the law and all that it calls make is longer than what came in: it says more and counts as full. Else prove '..UptoSaid'. A law counts once. -/
mutual
def uptoBulk {H : Type} : DataW H → Nat
  | .lit (.string bytes) => bytes.length + 1
  | .lit _ => 1
  | .nil => 1
  | .ptr d => uptoBulk d + 1
  | .slice elems spare => uptoBulkAll elems + uptoBulkAll spare + 1
  | .agg parts => uptoBulkAll parts + 1
  | .iface _ d => uptoBulk d + 1
  | .map entries => uptoBulkEntries entries + 1
  | .held _ => 1
def uptoBulkAll {H : Type} : List (DataW H) → Nat
  | [] => 0
  | d :: r => uptoBulk d + uptoBulkAll r
def uptoBulkEntries {H : Type} : List (Lit × DataW H) → Nat
  | [] => 0
  | x :: r => uptoBulkEntry x + uptoBulkEntries r
def uptoBulkEntry {H : Type} : Lit × DataW H → Nat
  | (.string bytes, d) => bytes.length + uptoBulk d + 1
  | (_, d) => uptoBulk d + 1
 end
def uptoSmall : (H : Type) → List (DataW H) → Bool := fun _ ds => decide (uptoBulkAll ds ≤ 1048576)
def OpenSpec.upto (s : _root_.Go.ChangeSpec) : _root_.Go.OpenSpec := { _root_.Go.OpenSpec.ofChange s with cond := some uptoSmall }

/-- 'laws.FnExactKeeperOk', WHERE WHAT IT READS IS OF BULK AT MOST 1048576: true; the input reads as it did. -/
def fnExactKeeperOkUptoRow : OpenClaim := { program := "ytamnlngihccgiaa", sum := "c5ce87d83fc7db89b88dedfff707a9ed12ae8b99c7024749704f8b673cce216f", func := "loop.example/g00526/laws.FnExactKeeperOk", spec := "fnExactKeeperOk", inPlace := ["internal/bytealg.IndexByteString", "internal/bytealg.IndexString"], unfollowed := true, recurses := true, named := ["internal/bytealg.MaxLen"], apart := false, narrowed := true }
def FnExactKeeperOkUptoSaid : Prop := fnExactKeeperOkUptoRow.holds Try.pinned (OpenSpec.upto fnExactKeeperOkSpec)

/-- 'laws.FnExactLastOf', WHERE WHAT IT READS IS OF BULK AT MOST 1048576: true; the input reads as it did. -/
def fnExactLastOfUptoRow : OpenClaim := { program := "ytamnlngihccgiaa", sum := "c5ce87d83fc7db89b88dedfff707a9ed12ae8b99c7024749704f8b673cce216f", func := "loop.example/g00526/laws.FnExactLastOf", spec := "fnExactLastOf", inPlace := ["internal/bytealg.IndexByteString", "internal/bytealg.IndexString"], unfollowed := true, recurses := true, named := ["internal/bytealg.MaxLen"], apart := false, narrowed := true }
def FnExactLastOfUptoSaid : Prop := fnExactLastOfUptoRow.holds Try.pinned (OpenSpec.upto fnExactLastOfSpec)

/-- 'laws.FnExactNewHouse', WHERE WHAT IT READS IS OF BULK AT MOST 1048576: true; the input reads as it did. -/
def fnExactNewHouseUptoRow : OpenClaim := { program := "ytamnlngihccgiaa", sum := "c5ce87d83fc7db89b88dedfff707a9ed12ae8b99c7024749704f8b673cce216f", func := "loop.example/g00526/laws.FnExactNewHouse", spec := "fnExactNewHouse", apart := false, narrowed := true }
def FnExactNewHouseUptoSaid : Prop := fnExactNewHouseUptoRow.holds Try.pinned (OpenSpec.upto fnExactNewHouseSpec)

/-- 'laws.FnExactSureOf', WHERE WHAT IT READS IS OF BULK AT MOST 1048576: true; the input reads as it did. -/
def fnExactSureOfUptoRow : OpenClaim := { program := "ytamnlngihccgiaa", sum := "c5ce87d83fc7db89b88dedfff707a9ed12ae8b99c7024749704f8b673cce216f", func := "loop.example/g00526/laws.FnExactSureOf", spec := "fnExactSureOf", inPlace := ["internal/bytealg.IndexByteString", "internal/bytealg.IndexString"], unfollowed := true, recurses := true, named := ["internal/bytealg.MaxLen"], apart := false, narrowed := true }
def FnExactSureOfUptoSaid : Prop := fnExactSureOfUptoRow.holds Try.pinned (OpenSpec.upto fnExactSureOfSpec)

/-- 'laws.FnExactRises', WHERE WHAT IT READS IS OF BULK AT MOST 1048576: true; the input reads as it did. -/
def fnExactRisesUptoRow : OpenClaim := { program := "ytamnlngihccgiaa", sum := "c5ce87d83fc7db89b88dedfff707a9ed12ae8b99c7024749704f8b673cce216f", func := "loop.example/g00526/laws.FnExactRises", spec := "fnExactRises", inPlace := ["internal/bytealg.IndexByteString", "internal/bytealg.IndexString"], unfollowed := true, recurses := true, named := ["internal/bytealg.MaxLen"], apart := false, narrowed := true }
def FnExactRisesUptoSaid : Prop := fnExactRisesUptoRow.holds Try.pinned (OpenSpec.upto fnExactRisesSpec)

/-- 'laws.FnExactSends', WHERE WHAT IT READS IS OF BULK AT MOST 1048576: true; the input reads as it did. -/
def fnExactSendsUptoRow : OpenClaim := { program := "ytamnlngihccgiaa", sum := "c5ce87d83fc7db89b88dedfff707a9ed12ae8b99c7024749704f8b673cce216f", func := "loop.example/g00526/laws.FnExactSends", spec := "fnExactSends", inPlace := ["internal/bytealg.IndexByteString", "internal/bytealg.IndexString"], unfollowed := true, recurses := true, named := ["internal/bytealg.MaxLen"], apart := false, narrowed := true }
def FnExactSendsUptoSaid : Prop := fnExactSendsUptoRow.holds Try.pinned (OpenSpec.upto fnExactSendsSpec)

/-- 'laws.FnExactHouseOk', WHERE WHAT IT READS IS OF BULK AT MOST 1048576: true; the input reads as it did. -/
def fnExactHouseOkUptoRow : OpenClaim := { program := "ytamnlngihccgiaa", sum := "c5ce87d83fc7db89b88dedfff707a9ed12ae8b99c7024749704f8b673cce216f", func := "loop.example/g00526/laws.FnExactHouseOk", spec := "fnExactHouseOk", inPlace := ["internal/bytealg.IndexByteString", "internal/bytealg.IndexString"], unfollowed := true, recurses := true, named := ["internal/bytealg.MaxLen"], apart := false, narrowed := true }
def FnExactHouseOkUptoSaid : Prop := fnExactHouseOkUptoRow.holds Try.pinned (OpenSpec.upto fnExactHouseOkSpec)

/-- 'laws.FnExactAsks', WHERE WHAT IT READS IS OF BULK AT MOST 1048576: true; the input reads as it did. -/
def fnExactAsksUptoRow : OpenClaim := { program := "ytamnlngihccgiaa", sum := "c5ce87d83fc7db89b88dedfff707a9ed12ae8b99c7024749704f8b673cce216f", func := "loop.example/g00526/laws.FnExactAsks", spec := "fnExactAsks", inPlace := ["internal/bytealg.IndexByteString", "internal/bytealg.IndexString"], unfollowed := true, recurses := true, named := ["internal/bytealg.MaxLen"], apart := false, narrowed := true }
def FnExactAsksUptoSaid : Prop := fnExactAsksUptoRow.holds Try.pinned (OpenSpec.upto fnExactAsksSpec)

/-- 'laws.FnExactAgree', WHERE WHAT IT READS IS OF BULK AT MOST 1048576: true; the input reads as it did. -/
def fnExactAgreeUptoRow : OpenClaim := { program := "ytamnlngihccgiaa", sum := "c5ce87d83fc7db89b88dedfff707a9ed12ae8b99c7024749704f8b673cce216f", func := "loop.example/g00526/laws.FnExactAgree", spec := "fnExactAgree", inPlace := ["internal/bytealg.IndexByteString", "internal/bytealg.IndexString"], unfollowed := true, recurses := true, named := ["internal/bytealg.MaxLen"], apart := false, narrowed := true }
def FnExactAgreeUptoSaid : Prop := fnExactAgreeUptoRow.holds Try.pinned (OpenSpec.upto fnExactAgreeSpec)

/-- 'laws.FnExactLeaders', WHERE WHAT IT READS IS OF BULK AT MOST 1048576: true; the input reads as it did. -/
def fnExactLeadersUptoRow : OpenClaim := { program := "ytamnlngihccgiaa", sum := "c5ce87d83fc7db89b88dedfff707a9ed12ae8b99c7024749704f8b673cce216f", func := "loop.example/g00526/laws.FnExactLeaders", spec := "fnExactLeaders", inPlace := ["internal/bytealg.IndexByteString", "internal/bytealg.IndexString"], unfollowed := true, recurses := true, named := ["internal/bytealg.MaxLen"], apart := false, narrowed := true }
def FnExactLeadersUptoSaid : Prop := fnExactLeadersUptoRow.holds Try.pinned (OpenSpec.upto fnExactLeadersSpec)

/-- 'laws.FnExactHears', WHERE WHAT IT READS IS OF BULK AT MOST 1048576: true; the input reads as it did. -/
def fnExactHearsUptoRow : OpenClaim := { program := "ytamnlngihccgiaa", sum := "c5ce87d83fc7db89b88dedfff707a9ed12ae8b99c7024749704f8b673cce216f", func := "loop.example/g00526/laws.FnExactHears", spec := "fnExactHears", inPlace := ["internal/bytealg.IndexByteString", "internal/bytealg.IndexString"], unfollowed := true, recurses := true, named := ["internal/bytealg.MaxLen"], apart := false, narrowed := true }
def FnExactHearsUptoSaid : Prop := fnExactHearsUptoRow.holds Try.pinned (OpenSpec.upto fnExactHearsSpec)

end Rows
end Go.Proofs.Ytamnlngihccgiaa
