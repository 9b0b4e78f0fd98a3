/- Code: what the abstract machine's weakest precondition says, the model's code does. -/
import Derived.Test.YtamnlngihccgiaaAmN
namespace Go.Proofs.Ytamnlngihccgiaa.AM
set_option linter.all false
open Go

/-- The slot of a guard. -/
def guardOk (ops : List Oper) (g : Option (Nat × Bool)) (g' : Option (Nat × Bool)) : Bool :=
  match g, g' with
  | none, none => true
  | some (j, b), some (t, b') => b == b' && (match ops[j]? with
    | some o => o.dst == some t
    | none => false)
  | _, _ => false
def dstOk (nt : Nat) : Option Nat → Bool
  | none => true
  | some d => decide (d < nt)
def checkO (P : Program) (nt : Nat) (ops : List Oper) (o : Oper) (x : AO) : Bool :=
  o.dst == x.d && dstOk nt x.d && guardOk ops o.guard x.g && checkOp P nt o.op x.o
def checkOs (P : Program) (nt : Nat) (ops : List Oper) : List Oper → List AO → Bool
  | [], [] => true
  | o :: r, x :: r' => checkO P nt ops o x && checkOs P nt ops r r'
  | _, _ => false

-- A plan's bookkeeping: what it takes first may be taken first; where it branches it branches over all that may come.
mutual
def planOk (ops : Array Oper) (xs : List AO) : Plan → Array Bool → Bool
  | .done, listed => (Region.ready .any ops listed).isEmpty
  | .take i p, listed => (Region.ready .any ops listed).contains i && Region.free .any ops listed i && (match xs[i]? with
    | some x => x.o.quiet
    | none => false) && planOk ops xs p (listed.setIfInBounds i true)
  | .all ps, listed => (Region.ready .any ops listed) == ps.map (·.1) && !ps.isEmpty && plansOk ops xs ps listed
def plansOk (ops : Array Oper) (xs : List AO) : List (Nat × Plan) → Array Bool → Bool
  | [], _ => true
  | (i, p) :: r, listed => planOk ops xs p (listed.setIfInBounds i true) && plansOk ops xs r listed
end
mutual
def Plan.depth : Plan → Nat
  | .done => 0
  | .take _ p => p.depth + 1
  | .all ps => Plan.depths ps + 1
def Plan.depths : List (Nat × Plan) → Nat
  | [] => 0
  | (_, p) :: r => max p.depth (Plan.depths r)
end

def check (P : Program) (nt : Nat) : Code → ACode → Bool
  | c, .fz x => check P nt c x
  | .skip, .skip => true
  | .region _ ops false, .reg xs => checkOs P nt ops.toList ops.toList xs
  | .region _ ops true, .dreg p xs => checkOs P nt ops.toList ops.toList xs && Region.noSelect ops && planOk ops xs p (Array.replicate ops.size false) && decide (p.depth ≤ ops.size)
  | .seq a b, .seq x y => check P nt a x && check P nt b y
  | .cond c a b, .cond c' x y => odOk nt c c' && check P nt a x && check P nt b y
  | .block i a, .block j x => i == j && check P nt a x
  | .loop a, .loop x => check P nt a x
  | .exit i, .exit j => i == j
  | .ret, .ret => true
  | _, .bad => true
  | _, _ => false

section
variable {P : Program} {nt : Nat}

/-- The states that stand for each other. -/
structure St (nt : Nat) (ρ0 : Ren) (H0 : AH) (w0 : World) (ρ : Ren) (fr : Fr) (H : AH) (a : Act) (w : World) : Prop where
  fr : FrOk ρ fr a
  sz : a.tmps.size = nt
  rel : Rel ρ H w
  re : Reach (ownP H0) ρ0 H0 w0 ρ H w
  df : a.defers = []

def Lift (nt : Nat) (ρ0 : Ren) (H0 : AH) (w0 : World) (Q : Fr → AH → Prop) (a : Act) (w : World) : Prop := ∃ ρ fr H, St nt ρ0 H0 w0 ρ fr H a w ∧ Q fr H
def LiftE (nt : Nat) (ρ0 : Ren) (H0 : AH) (w0 : World) (Q : Ex → Fr → AH → Prop) : Exit → Act → World → Prop
  | .normal, a, w => Lift nt ρ0 H0 w0 (Q .normal) a w
  | .exit id, a, w => Lift nt ρ0 H0 w0 (Q (.exit id)) a w
  | .ret, a, w => Lift nt ρ0 H0 w0 (Q .ret) a w
  | _, _, _ => False

variable {ρ0 : Ren} {H0 : AH} {w0 : World} {ρ : Ren} {fr : Fr} {H : AH} {a : Act} {w : World}

theorem Act.put_size (a : Act) (d : Option Tmp) (v : Value) : (a.put d v).tmps.size = a.tmps.size := by
  cases d <;> simp [Act.put]
theorem Act.put_defers' (a : Act) (d : Option Tmp) (v : Value) : (a.put d v).defers = a.defers := by
  cases d <;> simp [Act.put]

theorem St.step {pw : Nat → Prop} (hS : St nt ρ0 H0 w0 ρ fr H a w) {ρ' : Ren} {H' : AH} {w' : World} {d : Option Nat} {cv : Value} {av : AV} (hv : VR ρ' av cv) (hR : Rel ρ' H' w') (hre : Reach (WP H pw) ρ H w ρ' H' w') :
    St nt ρ0 H0 w0 ρ' (fr.setO d av) H' (a.put d cv) w' where
  fr := (hS.fr.mono hre.ren).put d hv
  sz := by rw [Act.put_size]; exact hS.sz
  rel := hR
  re := hS.re.trans (fun _ h => h.1) hre
  df := by rw [Act.put_defers']; exact hS.df

theorem vr_undef {ρ : Ren} : VR ρ (.t []) undef := by simp only [VR]; exact ⟨[], rfl, rfl⟩

/-- Is an operation wanted? -/
theorem guard_wanted {ops : List Oper} {o : Oper} {x : AO} (hg : guardOk ops o.guard x.g = true) (hd : ∀ t, (∃ (j : Nat) (o' : Oper), ops[j]? = some o' ∧ o'.dst = some t) → t < nt) (hS : St nt ρ0 H0 w0 ρ fr H a w) :
    (x.g = none ∧ Region.wanted o (yielded ops.toArray a.tmps) = true) ∨
    (∃ t want, x.g = some (t, want) ∧ ((∃ c, fr.get t = .b c ∧ Region.wanted o (yielded ops.toArray a.tmps) = (c == want)) ∨ (fr.get t = .t [] ∧ Region.wanted o (yielded ops.toArray a.tmps) = false) ∨ (∀ c, fr.get t ≠ .b c) ∧ fr.get t ≠ .t [])) := by
  unfold guardOk at hg
  split at hg
  · rename_i h1 h2
    exact .inl ⟨h2, by simp [Region.wanted, h1]⟩
  · rename_i j b t b' h1 h2
    simp only [Bool.and_eq_true, beq_iff_eq] at hg
    obtain ⟨rfl, hg⟩ := hg
    split at hg
    case h_2 => cases hg
    rename_i o' ho'
    simp only [beq_iff_eq] at hg
    refine .inr ⟨t, b, h2, ?_⟩
    have hlt : t < nt := hd t ⟨j, o', ho', hg⟩
    have hv := hS.fr t (by rw [hS.sz]; exact hlt)
    have hy : yielded ops.toArray a.tmps j = match a.tmps[t]? with
        | some (.bool b) => some b
        | _ => none := by
      simp only [yielded, List.getElem?_toArray, ho', Option.bind_some, hg]
      rfl
    have hget : a.tmps[t]? = some (a.tmps.getD t undef) := by
      have : t < a.tmps.size := by rw [hS.sz]; exact hlt
      simp [this]
    rw [hget] at hy
    cases hfr : fr.get t with
    | b c =>
      rw [hfr] at hv
      simp only [VR] at hv
      rw [hv] at hy
      refine .inl ⟨c, rfl, ?_⟩
      simp only [Region.wanted, h1, hy]
      cases c <;> cases b <;> rfl
    | t cs =>
      by_cases hc : cs = []
      · subst hc
        rw [hfr] at hv
        simp only [VR, VRs] at hv
        obtain ⟨vs, hv, rfl⟩ := hv
        rw [hv] at hy
        refine .inr (.inl ⟨rfl, ?_⟩)
        simp only [Region.wanted, h1, hy]
        rfl
      · exact .inr (.inr ⟨by simp, by simpa using hc⟩)
    | _ => exact .inr (.inr ⟨by simp, by simp⟩)
  · cases hg

/-- One operation behind its guard. -/
theorem ago_sound {pw rd : Nat → Prop} {ops : List Oper} {o : Oper} {x : AO} (hc : checkO P nt ops o x = true) (hd : ∀ t, (∃ (j : Nat) (o' : Oper), ops[j]? = some o' ∧ o'.dst = some t) → t < nt)
    (hS : St nt ρ0 H0 w0 ρ fr H a w) {K : Fr → AH → Prop} (h : ago (env P) pw rd x fr H K) {next : Act → World → Prop}
    (hn : ∀ ρ' fr' H' cv w', St nt ρ0 H0 w0 ρ' fr' H' (a.put o.dst cv) w' → Reach (WP H pw) ρ H w ρ' H' w' → K fr' H' → next (a.put o.dst cv) w') (Q : Exit → Act → World → Prop) :
    if Region.wanted o (yielded ops.toArray a.tmps) then o.wp P a w next Q else next (a.put o.dst undef) w := by
  simp only [checkO, Bool.and_eq_true, beq_iff_eq] at hc
  obtain ⟨⟨⟨hdst, _⟩, hg⟩, hop⟩ := hc
  have perform : aop (env P) pw rd x.o fr H (fun v H' => K (fr.setO x.d v) H') → o.wp P a w next Q := fun h => by
    have := Eff.of_aop hS.fr hS.sz hS.rel hop h
    refine Oper.wp_mono ?_ (this Q)
    rintro a' w' ⟨cv, av, ρ', H', rfl, hK, hv, hR, hre⟩
    exact hn ρ' (fr.setO x.d av) H' cv w' (by rw [← hdst]; exact hS.step hv hR hre) hre hK
  have skip : K (fr.setO x.d (.t [])) H → next (a.put o.dst undef) w := fun h =>
    hn ρ _ H undef w (by rw [← hdst]; exact hS.step (pw := pw) vr_undef hS.rel (Reach.refl _ _ _ _)) (Reach.refl _ _ _ _) h
  unfold ago at h
  rcases guard_wanted hg hd hS with ⟨hgn, hw⟩ | ⟨t, want, hgs, hcase⟩
  · rw [hgn] at h
    rw [hw]
    exact perform h
  · rw [hgs] at h
    simp only at h
    rcases hcase with ⟨c, hfr, hw⟩ | ⟨hfr, hw⟩ | ⟨h1, h2⟩
    · rw [hfr] at h
      simp only at h
      rw [hw]
      by_cases hcw : c = want
      · rw [if_pos hcw] at h
        simp only [hcw, beq_self_eq_true, if_true]
        exact perform h
      · rw [if_neg hcw] at h
        have : (c == want) = false := by simpa using hcw
        simp only [this, Bool.false_eq_true, if_false]
        exact skip h
    · rw [hfr] at h
      simp only at h
      rw [hw]
      simp only [Bool.false_eq_true, if_false]
      exact skip h
    · split at h
      · rename_i c hfr; exact absurd hfr (h1 c)
      · rename_i hfr; exact absurd hfr h2
      · exact h.elim

theorem checkOs_dst {ops : List Oper} : ∀ {l : List Oper} {xs : List AO}, checkOs P nt ops l xs = true → ∀ (j : Nat) o t, l[j]? = some o → o.dst = some t → t < nt
  | [], [], _, j, o, t, h, _ => by simp at h
  | [], _ :: _, h, _, _, _, _, _ => by simp [checkOs] at h
  | _ :: _, [], h, _, _, _, _, _ => by simp [checkOs] at h
  | o0 :: l, x :: xs, h, j, o, t, hj, hd => by
    simp only [checkOs, Bool.and_eq_true] at h
    cases j with
    | zero =>
      simp at hj; subst hj
      simp only [checkO, Bool.and_eq_true, beq_iff_eq] at h
      have h1 := h.1.1.1.1
      have h2 := h.1.1.1.2
      rw [← h1, hd] at h2
      simpa [dstOk] using h2
    | succ j => exact checkOs_dst h.2 j o t (by simpa using hj) hd
theorem checkOs_get {ops : List Oper} : ∀ {l : List Oper} {xs : List AO}, checkOs P nt ops l xs = true → ∀ (j : Nat) x, xs[j]? = some x → ∃ o, l[j]? = some o ∧ checkO P nt ops o x = true
  | [], [], _, j, x, h => by simp at h
  | [], _ :: _, h, _, _, _ => by simp [checkOs] at h
  | _ :: _, [], h, _, _, _ => by simp [checkOs] at h
  | o0 :: l, x0 :: xs, h, j, x, hj => by
    simp only [checkOs, Bool.and_eq_true] at h
    cases j with
    | zero => simp at hj; subst hj; exact ⟨o0, by simp, h.1⟩
    | succ j => simpa using checkOs_get h.2 j x (by simpa using hj)

theorem aops_sound {ops : List Oper} (hd : ∀ t, (∃ (j : Nat) (o' : Oper), ops[j]? = some o' ∧ o'.dst = some t) → t < nt) {Q : Ex → Fr → AH → Prop} : ∀ (l : List Oper) (xs : List AO), checkOs P nt ops l xs = true → ∀ (ρ : Ren) (fr : Fr) (H : AH) (a : Act) (w : World),
    St nt ρ0 H0 w0 ρ fr H a w → aops (env P) xs fr H (Q .normal) → wpList P ops.toArray (LiftE nt ρ0 H0 w0 Q) l a w
  | [], [], _, ρ, fr, H, a, w, hS, h => ⟨ρ, fr, H, hS, h⟩
  | [], _ :: _, h, _, _, _, _, _, _, _ => by simp [checkOs] at h
  | _ :: _, [], h, _, _, _, _, _, _, _ => by simp [checkOs] at h
  | o :: l, x :: xs, hc, ρ, fr, H, a, w, hS, h => by
    simp only [checkOs, Bool.and_eq_true] at hc
    simp only [aops] at h
    unfold wpList
    have := ago_sound hc.1 hd hS h (next := wpList P ops.toArray (LiftE nt ρ0 H0 w0 Q) l) (fun ρ' fr' H' cv w' hS' _ hK => aops_sound hd l xs hc.2 ρ' fr' H' _ w' hS' hK) (LiftE nt ρ0 H0 w0 Q)
    split
    · rename_i hw; rw [if_pos hw] at this; exact .inl this
    · rename_i hw; rw [if_neg hw] at this; exact this
end
end Go.Proofs.Ytamnlngihccgiaa.AM
