/- The contract of the law FnExactKeeperOk. -/
import Derived.Test.YtamnlngihccgiaaHFnExactKeeperOk
namespace Go.Proofs.Ytamnlngihccgiaa.AM
set_option linter.all false
open Go
theorem law_pf0 {c0 : List CT} (a0 : List AV) (h0 : Iss c0 a0) (e0 : GT.ct tKeeper = some c0) : Pf Try.prog 3 [.a a0] (.b true) := by
  obtain ⟨x0, rfl, w0⟩ := ct_ex tKeeper e0 h0
  exact Pf.of_run hm Try.func3 okFn_laws_FnExactKeeperOk B_laws_FnExactKeeperOk_ok B_laws_FnExactKeeperOk_wf (O_laws_FnExactKeeperOk_ok 9223372036854775808) rfl ((F_laws_FnExactKeeperOk_run 9223372036854775808 x0).trans (law_F x0 w0 (Nat.le_refl _)))
theorem law_pf (a0 : List AV) (h0 : Iss [.i .i64, .i .i64, .i .i64, .q [.i .i64, .s], .i .i64, .i .i64, .i .i64, .q [.i .i64], .q [.i .i64], .b] a0) : Pf Try.prog 3 [.a a0] (.b true) := law_pf0 a0 h0 rfl
end Go.Proofs.Ytamnlngihccgiaa.AM
