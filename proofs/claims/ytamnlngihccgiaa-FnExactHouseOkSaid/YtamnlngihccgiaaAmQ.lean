/- Whole functions: a function's contract out of the abstract machine's weakest precondition of its body. -/
import Derived.Test.YtamnlngihccgiaaAmP
import Derived.Calls
namespace Go.Proofs.Ytamnlngihccgiaa.AM
set_option linter.all false
open Go

def resOk (P : Program) (nt : Nat) : ResultVar → ARes → Bool
  | .tmp t, .t k => t == k && decide (t < nt)
  | .cell a ty, .cell k sz ag => a == k && decide (a < nt) && tySize P ty == some sz && tyAgg P ty == some ag
  | _, _ => false
def ressOk (P : Program) (nt : Nat) : List ResultVar → List ARes → Bool
  | [], [] => true
  | x :: xs, y :: ys => resOk P nt x y && ressOk P nt xs ys
  | _, _ => false
def checkFn (P : Program) (fn : Func) (A : AFn) : Bool :=
  (match fn.body with
    | some c => check P A.nt c A.body
    | none => false) && fn.ntmps == A.nt && decide (A.np ≤ A.nt) && ressOk P A.nt fn.results.toList A.res

section
variable {P : Program} {nt : Nat} {ρ0 : Ren} {H0 : AH} {w0 : World} {ρ : Ren} {fr : Fr} {H : AH} {a : Act} {w : World}

theorem ress_sound (hS : St nt ρ0 H0 w0 ρ fr H a w) : ∀ (rs : List ResultVar) (as : List ARes) (vs : List AV), ressOk P nt rs as = true → aress fr H as = some vs →
    ∃ cvs : List Value, (rs.mapM (fun
      | .tmp t => pure (a.tmps.getD t undef)
      | .cell ad t => do loadVar t (← asAddr (a.tmps.getD ad undef)) : ResultVar → Sem Value)).run P w = .ok cvs w ∧ VRs ρ vs cvs
  | [], [], vs, _, h => by
    simp only [aress, Option.some.injEq] at h
    subst h
    exact ⟨[], by simp, by simp [VRs]⟩
  | [], _ :: _, _, h, _ => by simp [ressOk] at h
  | _ :: _, [], _, h, _ => by simp [ressOk] at h
  | r :: rs, x :: xs, vs, hc, h => by
    simp only [ressOk, Bool.and_eq_true] at hc
    have one : ∃ v vs', vs = v :: vs' ∧ aress fr H xs = some vs' ∧ ∃ cv, (match r with
      | .tmp t => pure (a.tmps.getD t undef)
      | .cell ad t => (do loadVar t (← asAddr (a.tmps.getD ad undef))) : Sem Value).run P w = .ok cv w ∧ VR ρ v cv := by
      cases r with
      | tmp t =>
        cases x with
        | cell => simp [resOk] at hc
        | t k =>
          simp only [resOk, Bool.and_eq_true, beq_iff_eq, decide_eq_true_eq] at hc
          obtain ⟨⟨rfl, ht⟩, hc⟩ := hc
          simp only [aress, Option.map_eq_some_iff] at h
          obtain ⟨vs', h1, rfl⟩ := h
          exact ⟨_, vs', rfl, h1, _, rfl, hS.fr t (by rw [hS.sz]; exact ht)⟩
      | cell ad t =>
        cases x with
        | t => simp [resOk] at hc
        | cell k sz ag =>
          simp only [resOk, Bool.and_eq_true, beq_iff_eq, decide_eq_true_eq] at hc
          obtain ⟨⟨⟨⟨rfl, ht⟩, hsz⟩, hag⟩, hc⟩ := hc
          simp only [aress] at h
          have hv := hS.fr ad (by rw [hS.sz]; exact ht)
          split at h
          case h_2 => cases h
          rename_i id i j hp
          rw [hp] at hv
          simp only [VR] at hv
          obtain ⟨l, hl, hv⟩ := hv
          simp only [Option.bind_eq_some_iff, Option.map_eq_some_iff] at h
          obtain ⟨v, ⟨row, hrow, hpv⟩, vs', h1, rfl⟩ := h
          obtain ⟨B, hB, hr, l', hl', hBok⟩ := hS.rel.row hrow
          rw [hl] at hl'
          simp only [Option.some.injEq] at hl'
          subst hl'
          obtain ⟨cv, hld, hcv⟩ := hBok.loads (P := P) (w' := w) rfl hr hpv hsz hag
          refine ⟨v, vs', rfl, h1, cv, ?_, hcv⟩
          simp only [hv, asAddr, Sem.run_bind, Sem.run_pure, Result.andThen_ok]
          exact hld
    obtain ⟨v, vs', rfl, hvs', cv, hcv, hr⟩ := one
    obtain ⟨cvs, h1, h2⟩ := ress_sound hS rs xs vs' hc.2 hvs'
    refine ⟨cv :: cvs, ?_, by simp only [VRs]; exact ⟨cv, cvs, rfl, hr, h2⟩⟩
    rw [List.mapM_cons]
    simp only [Sem.run_bind, hcv, Result.andThen_ok, h1, Sem.run_pure]

theorem results_sound {fn : Func} (hS : St nt ρ0 H0 w0 ρ fr H a w) {as : List ARes} (hc : ressOk P nt fn.results.toList as = true) {v : AV} (h : ares fr H as = some v) :
    ∃ cv, (results fn a.tmps).run P w = .ok cv w ∧ VR ρ v cv := by
  simp only [ares, Option.map_eq_some_iff] at h
  obtain ⟨vs, hvs, hv⟩ := h
  obtain ⟨cvs, h1, h2⟩ := ress_sound hS _ as vs hc hvs
  have hlen := h2.length
  unfold results
  rw [Array.mapM_eq_mapM_toList]
  rw [Sem.run_bind, Sem.run_map]
  erw [h1]
  simp only [Result.andThen_ok]
  split at hv
  · rename_i x
    subst hv
    simp only [VRs] at h2
    obtain ⟨cv, r, rfl, hr, rfl⟩ := h2
    exact ⟨cv, by simp, hr⟩
  · rename_i hne
    subst hv
    refine ⟨.tuple cvs.toArray, ?_, by simp only [VR]; exact ⟨cvs, rfl, h2⟩⟩
    have : cvs.length ≠ 1 := by
      intro e
      rw [hlen] at e
      obtain ⟨x, rfl⟩ := List.length_eq_one_iff.1 e
      exact hne x rfl
    simp [this]

/-- A function's contract. -/
theorem Ct.of_afn (hm : P.follows .mixedOrders = true) {f : FuncId} {fn : Func} (hf : P.funcs[f]? = some fn) {A : AFn} (hc : checkFn P fn A = true) {args : List AV} {R : AV → AH → Prop}
    (h : afn (env P) A args H R) : Ct P f args H R := by
  intro ρ w cargs hR ha
  obtain ⟨hlen, h⟩ := h
  simp only [checkFn, Bool.and_eq_true, beq_iff_eq, decide_eq_true_eq] at hc
  obtain ⟨⟨⟨hc, hnt⟩, hnp⟩, hres⟩ := hc
  split at hc
  case h_2 => cases hc
  rename_i c hb
  have hl := ha.length
  refine calls_of_wp hf hb ?_
  have hS : St A.nt ρ H w ρ (Fr.ofList args) H { tmps := cargs.toArray ++ Array.replicate (fn.ntmps - cargs.toArray.size) undef, defers := [] } w := by
    refine ⟨fun t ht => ?_, by simp; omega, hR, Reach.refl _ _ _ _, rfl⟩
    simp only [Fr.ofList, Fr.get]
    by_cases hlt : t < cargs.length
    · obtain ⟨cv, h1, h2⟩ := ha.get t (args[t]'(by omega)) (List.getElem?_eq_getElem (by omega))
      have e1 : args.getD t (.t []) = args[t]'(by omega) := by simp [List.getD_eq_getElem?_getD, List.getElem?_eq_getElem (show t < args.length by omega)]
      rw [e1]
      have e2 : (cargs.toArray ++ Array.replicate (fn.ntmps - cargs.toArray.size) undef).getD t undef = cv := by
        have := (List.getElem?_eq_some_iff.1 h1).2
        rw [Array.getD_eq_getD_getElem?, Array.getElem?_append_left (by simpa using hlt)]
        simp [h1]
      rw [e2]; exact h2
    · have e1 : args.getD t (.t []) = .t [] := by simp [List.getD_eq_getElem?_getD, List.getElem?_eq_none (show args.length ≤ t by omega)]
      rw [e1]
      have e2 : (cargs.toArray ++ Array.replicate (fn.ntmps - cargs.toArray.size) undef).getD t undef = undef := by
        rw [Array.getD_eq_getD_getElem?, Array.getElem?_append_right (by simpa using hlt)]
        rw [Array.getElem?_replicate]
        split <;> simp
      rw [e2]; exact vr_undef
  refine wp_mono (awp_sound hm A.body c _ ρ _ H _ w hc hS h) fun e a' w' hq => ?_
  have fin : ∀ ρ' fr' H', St A.nt ρ H w ρ' fr' H' a' w' → (∃ r, ares fr' H' A.res = some r ∧ R r H') →
      a'.defers = [] ∧ ∃ v, (results fn a'.tmps).run P w' = .ok v w' ∧ ∃ v_1 ρ'_1 r H'_1, Ending.returned v = .returned v_1 ∧ R r H'_1 ∧ VR ρ'_1 r v_1 ∧ Rel ρ'_1 H'_1 w' ∧ Reach (ownP H) ρ H w ρ'_1 H'_1 w' := by
    rintro ρ' fr' H' hS' ⟨r, hr, hRr⟩
    obtain ⟨cv, h1, h2⟩ := results_sound hS' hres hr
    exact ⟨hS'.df, cv, h1, cv, ρ', r, H', rfl, hRr, h2, hS'.rel, hS'.re⟩
  cases e with
  | normal => obtain ⟨ρ', fr', H', hS', hq⟩ := hq; exact fin ρ' fr' H' hS' hq
  | ret => obtain ⟨ρ', fr', H', hS', hq⟩ := hq; exact fin ρ' fr' H' hS' hq
  | exit id => obtain ⟨ρ', fr', H', hS', hq⟩ := hq; exact hq.elim
  | _ => exact hq.elim
end
end Go.Proofs.Ytamnlngihccgiaa.AM
