/- The contract of the law FnExactCoreOk. -/
import Derived.Test.YtfeedfknflbpjaaHFnExactCoreOk
namespace Go.Proofs.Ytfeedfknflbpjaa.AM
set_option linter.all false
open Go
theorem law_pf0 {c0 : List CT} (a0 : List AV) (h0 : Iss c0 a0) (e0 : GT.ct tCore = some c0) : Pf Try.prog 4 [.a a0] (.b true) := by
  obtain ⟨x0, rfl, w0⟩ := ct_ex tCore e0 h0
  exact Pf.of_run hm Try.func4 okFn_laws_FnExactCoreOk B_laws_FnExactCoreOk_ok B_laws_FnExactCoreOk_wf (O_laws_FnExactCoreOk_ok 9223372036854775808) rfl ((F_laws_FnExactCoreOk_run 9223372036854775808 x0).trans (law_F x0 w0 (Nat.le_refl _)))
theorem law_pf (a0 : List AV) (h0 : Iss [.i .i64, .q [.i .i64], .q [.s, .i .i64], .i .i64, .i .i64] a0) : Pf Try.prog 4 [.a a0] (.b true) := law_pf0 a0 h0 rfl
end Go.Proofs.Ytfeedfknflbpjaa.AM
