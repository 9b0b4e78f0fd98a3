/- The contract of the law FnExactHouseOk. -/
import Derived.Test.YtamnlngihccgiaaHFnExactHouseOk
namespace Go.Proofs.Ytamnlngihccgiaa.AM
set_option linter.all false
open Go
theorem law_pf0 {c0 : List CT} (a0 : List AV) (h0 : Iss c0 a0) (e0 : GT.ct tHouse = some c0) : Pf Try.prog 9 [.a a0] (.b true) := by
  obtain ⟨x0, rfl, w0⟩ := ct_ex tHouse e0 h0
  exact Pf.of_run hm Try.func9 okFn_laws_FnExactHouseOk B_laws_FnExactHouseOk_ok B_laws_FnExactHouseOk_wf (O_laws_FnExactHouseOk_ok 9223372036854775808) rfl ((F_laws_FnExactHouseOk_run 9223372036854775808 x0).trans (law_F x0 w0 (Nat.le_refl _)))
theorem law_pf (a0 : List AV) (h0 : Iss [.q [.i .i64, .i .i64, .i .i64, .q [.i .i64, .s], .i .i64, .i .i64, .i .i64, .q [.i .i64], .q [.i .i64], .b], .q [.i .i64, .i .i64, .i .i64, .i .i64, .i .i64, .i .i64, .q [.i .i64, .s], .i .i64, .b]] a0) : Pf Try.prog 9 [.a a0] (.b true) := law_pf0 a0 h0 rfl
end Go.Proofs.Ytamnlngihccgiaa.AM
