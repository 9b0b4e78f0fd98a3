/- From a law's contract to its call: the first memory, the arguments, what is left of the world. -/
import Derived.Test.YtamnlngihccgiaaAmV
namespace Go.Proofs.Ytamnlngihccgiaa.AM
set_option linter.all false
open Go

/-- The first memory: nothing but the block of nil slices. -/
def H0 : AH := ⟨fun j => if j = 0 then some nilBlk else none, 1, fun j h => by rw [if_neg (by omega)]⟩
/-- All cells of a world, written down. -/
def ρ0 (w : World) : Ren := ⟨fun j => if j = 0 then some none else none, fun b o => w.cell? ⟨b, o, none⟩⟩

theorem start_rel (w : World) : Rel (ρ0 w) H0 w where
  fresh := fun id h => by
    have : id ≠ 0 := by simp only [H0] at h; omega
    simp [ρ0, H0, this]
  nil := ⟨rfl, rfl⟩
  blk := fun id B h => by
    simp only [H0] at h
    split at h
    · rename_i e
      subst e
      simp only [Option.some.injEq] at h
      subst h
      exact ⟨none, rfl, rfl⟩
    · cases h
  sep := fun id id' B B' l l' _ _ h => by
    simp only [ρ0] at h
    split at h <;> simp at h
  fit := fun id l h => by
    simp only [ρ0] at h
    split at h <;> simp at h
  con := fun b o v h => by
    refine ⟨h, ?_⟩
    simp only [ρ0] at h
    unfold World.cell? at h
    rcases Nat.lt_or_ge b w.heap.size with hb | hb
    · exact hb
    · simp [Array.getElem?_eq_none hb] at h
  conOwn := fun id B l _ h => by
    simp only [ρ0] at h
    split at h <;> simp at h

/-- The call of a pure function on arguments told as values. -/
theorem Pf.calls {P : Program} {f : FuncId} {args : List AV} {b : Bool} (h : Pf P f args (.b b)) {w : World} {cargs : List Value} (ha : VRs (ρ0 w) args cargs) :
    Calls P f cargs.toArray w fun e w' => e = .returned (.bool b) ∧ RowKit.Below w.heap.size w w' := by
  refine (h.2 H0 (ρ0 w) w cargs (start_rel w) ha).mono ?_
  rintro e w' ⟨v, ρ', r, H', rfl, ⟨rfl, rfl⟩, hv, hR, hre⟩
  simp only [VR] at hv
  subst hv
  refine ⟨rfl, hre.env.1, hre.env.2.1, hre.env.2.2, hre.size, fun k hk => hre.keep k hk fun id l _ hl => ?_⟩
  simp only [ρ0] at hl
  split at hl <;> simp at hl

section
variable {H : Type} {enc : TypeId × Value → H} {P : Program} {w : World} {base : Nat} {spare : Nat → Bool} {held : Bool}

def tyIsStruct (P : Program) (t : TypeId) : Bool := match P.underlying t with
  | some (.struct _) => true
  | _ => false

/-- An argument of a struct's type. -/
theorem arg_struct {t : TypeId} {v : Value} {d : DataW H} {ps : List MemPlace} {r : Go.Reach} {b0 : Nat} (hok : Value.okWide P w r b0 t v) (hs : tyIsStruct P t = true) (h : DataW.Trod enc P w base spare held t v d ps)
    {n : Nat} {c : List CT} (hc : ctOf P n t = some c) : ∃ vs, VR (ρ0 w) (.a vs) v ∧ Iss c vs := by
  obtain ⟨fuel, h⟩ := h
  obtain ⟨vs, h1, h2⟩ := trod_view (ρ := ρ0 w) (fun b o v h => h) n fuel t _ _ c h hc
  unfold tyIsStruct at hs
  split at hs
  case h_2 => cases hs
  rename_i fs hu
  unfold Value.okWide at hok
  rw [hu] at hok
  obtain ⟨cs, rfl, _⟩ := hok
  refine ⟨vs, ?_, h2⟩
  simp only [VR]
  exact ⟨cs.toList, by simp, by simpa [Value.cells] using h1⟩

/-- An argument of one cell. -/
theorem arg_cell {t : TypeId} {v : Value} {d : DataW H} {ps : List MemPlace} {r : Go.Reach} {b0 : Nat} (hok : Value.okWide P w r b0 t v) (hs : tyIsStruct P t = false) (h : DataW.Trod enc P w base spare held t v d ps)
    {n : Nat} {c : CT} (hc : ctOf P n t = some [c]) : ∃ av, VR (ρ0 w) av v ∧ Is c av := by
  obtain ⟨fuel, h⟩ := h
  obtain ⟨vs, h1, h2⟩ := trod_view (ρ := ρ0 w) (fun b o v h => h) n fuel t _ _ [c] h hc
  simp only [Iss] at h2
  obtain ⟨av, _, rfl, h3, rfl⟩ := h2
  have hv : v.cells.toList = [v] := by
    cases v
    case agg cs =>
      exfalso
      cases n with
      | zero => simp [ctOf] at hc
      | succ n =>
        unfold tyIsStruct at hs
        unfold Value.okWide at hok
        simp only [ctOf] at hc
        cases hu : P.underlying t with
        | none => simp [hu] at hc
        | some dd =>
          rw [hu] at hc hs hok
          cases dd <;> simp only [reduceCtorEq, Option.some.injEq] at hc hs hok <;> (simp [Cell.okWide, hu, Cell.ok] at hok)
    all_goals rfl
  rw [hv] at h1
  simp only [VRs] at h1
  obtain ⟨cv, _, e, h4, rfl⟩ := h1
  simp only [List.cons.injEq, and_true] at e
  subst e
  exact ⟨av, h4, h3⟩
end
end Go.Proofs.Ytamnlngihccgiaa.AM
