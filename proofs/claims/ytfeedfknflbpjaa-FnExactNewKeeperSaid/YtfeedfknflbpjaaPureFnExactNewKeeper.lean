/- For every number, the program's NewKeeper returns what the reference's NewKeeper returns, in memory of its own: without a condition. -/
import Derived.Test.YtfeedfknflbpjaaPFnExactNewKeeperx4
namespace Go.Proofs.Ytfeedfknflbpjaa.Pure
open Go.RowKit Go.Proofs.Ytfeedfknflbpjaa.PFnExactNewKeeper Go.Proofs.YtfeedfknflbpjaaW.PrintWords Go.Proofs.YtfeedfknflbpjaaW.PrintLast

theorem eqItems (k : Nat) : laws_eqItemS.f (k + 1) [] [] = some true := by
  simp [laws_eqItemS.f, laws_eqItemS.l0]
theorem eqInts (k : Nat) : laws_eqInt64S.f (k + 1) [] [] = some true := by
  simp [laws_eqInt64S.f, laws_eqInt64S.l0]
theorem markItems (k : Nat) (m : Int) : laws_markItemS.f (k + 1) [] m = some (m, []) := by
  simp [laws_markItemS.f, laws_markItemS.l0]
theorem markInts (k : Nat) (m : Int) : laws_markInt64S.f (k + 1) [] m = some (m, []) := by
  simp [laws_markInt64S.f, laws_markInt64S.l0]
theorem heldItems (k : Nat) (m : Int) : laws_heldItemS.f (k + 1) [] m = some m := by
  simp [laws_heldItemS.f, laws_heldItemS.l0]
theorem heldInts (k : Nat) (m : Int) : laws_heldInt64S.f (k + 1) [] m = some m := by
  simp [laws_heldInt64S.f, laws_heldInt64S.l0]

theorem FnExactNewKeeper : laws_FnExactNewKeeper.Pure := by
  intro a _
  refine ⟨3, ?_⟩
  by_cases h1 : (0 : Int) ≤ a <;> by_cases h2 : a ≤ 2 <;>
  simp [laws_FnExactNewKeeper.f, spec_NewKeeper.f, impl_NewKeeper.f, spec_l1In.f, impl_within.f, h1, h2,
    laws_eqKeeper.f, eqItems, eqInts, laws_FnExactNewKeeper.j0, laws_FnExactNewKeeper.j1, laws_markKeeper.f, markItems, markInts,
    laws_heldKeeper.f, heldItems, heldInts]

end Go.Proofs.Ytfeedfknflbpjaa.Pure
