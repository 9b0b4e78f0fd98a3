/- The contract of the law FnExactOrderOk. -/
import Derived.Test.YtfeedfknflbpjaaHFnExactOrderOk
namespace Go.Proofs.Ytfeedfknflbpjaa.AM
set_option linter.all false
open Go
theorem law_pf0 {c0 : List CT} (a0 : List AV) (h0 : Iss c0 a0) (e0 : GT.ct tOrder = some c0) : Pf Try.prog 7 [.a a0] (.b true) := by
  obtain ⟨x0, rfl, w0⟩ := ct_ex tOrder e0 h0
  exact Pf.of_run hm Try.func7 okFn_laws_FnExactOrderOk B_laws_FnExactOrderOk_ok B_laws_FnExactOrderOk_wf (O_laws_FnExactOrderOk_ok 9223372036854775808) rfl ((F_laws_FnExactOrderOk_run 9223372036854775808 x0).trans (law_F x0 w0 (Nat.le_refl _)))
theorem law_pf (a0 : List AV) (h0 : Iss [.i .i64, .i .i64, .i .i64, .s, .s, .i .i64, .i .i64, .q [.i .i64], .s] a0) : Pf Try.prog 7 [.a a0] (.b true) := law_pf0 a0 h0 rfl
end Go.Proofs.Ytfeedfknflbpjaa.AM
