/- Contracts of functions out of runs, and how a contract answers a call. -/
import Derived.Test.YtamnlngihccgiaaRf
namespace Go.Proofs.Ytamnlngihccgiaa.AM
set_option linter.all false
open Go
set_option linter.constructorNameAsVariable false
set_option linter.unusedSimpArgs false

mutual
theorem PV.trans {H : AH} {S : Nat → Prop} : ∀ (d e a : AV), PV H S d e → PV H S e a → PV H S d a
  | .q rows, e, a, h1, h2 => by
    simp only [PV] at h1
    rcases h1 with ⟨rows', rfl, h1⟩ | ⟨id, i, n, B, rfl, h1, h3, h4, h5⟩
    · simp only [PV] at h2 ⊢
      rcases h2 with ⟨rows2, rfl, h2⟩ | ⟨id, i, n, B, rfl, h6, h3, h4, h5⟩
      · exact .inl ⟨rows2, rfl, PVss.trans _ _ _ h1 h2⟩
      · exact .inr ⟨id, i, n, B, rfl, h6, h3, h4, PVss.trans _ _ _ h1 h5⟩
    · simp only [PV] at h2 ⊢
      subst h2
      exact .inr ⟨id, i, n, B, rfl, h1, h3, h4, h5⟩
  | .pq r j, e, a, h1, h2 => by
    simp only [PV] at h1
    rcases h1 with ⟨r', rfl, h1⟩ | ⟨id, i, B, r', rfl, h1, h3, h4, h5⟩
    · simp only [PV] at h2 ⊢
      rcases h2 with ⟨r2, rfl, h2⟩ | ⟨id, i, B, r2, rfl, h6, h3, h4, h5⟩
      · exact .inl ⟨r2, rfl, PVs.trans _ _ _ h1 h2⟩
      · exact .inr ⟨id, i, B, r2, rfl, h6, h3, h4, PVs.trans _ _ _ h1 h5⟩
    · simp only [PV] at h2 ⊢
      subst h2
      exact .inr ⟨id, i, B, r', rfl, h1, h3, h4, h5⟩
  | .a cs, e, a, h1, h2 => by
    simp only [PV] at h1 ⊢
    obtain ⟨cs', rfl, h1⟩ := h1
    simp only [PV] at h2
    obtain ⟨cs2, rfl, h2⟩ := h2
    exact ⟨cs2, rfl, PVs.trans _ _ _ h1 h2⟩
  | .t cs, e, a, h1, h2 => by
    simp only [PV] at h1 ⊢
    obtain ⟨cs', rfl, h1⟩ := h1
    simp only [PV] at h2
    obtain ⟨cs2, rfl, h2⟩ := h2
    exact ⟨cs2, rfl, PVs.trans _ _ _ h1 h2⟩
  | .f g cs, e, a, h1, h2 => by
    simp only [PV] at h1 ⊢
    obtain ⟨cs', rfl, h1⟩ := h1
    simp only [PV] at h2
    obtain ⟨cs2, rfl, h2⟩ := h2
    exact ⟨cs2, rfl, PVs.trans _ _ _ h1 h2⟩
  | .e ty x, e, a, h1, h2 => by
    simp only [PV] at h1 ⊢
    obtain ⟨cs', rfl, h1⟩ := h1
    simp only [PV] at h2
    obtain ⟨cs2, rfl, h2⟩ := h2
    exact ⟨cs2, rfl, PV.trans _ _ _ h1 h2⟩
  | .b _, e, a, h1, h2 => by simp only [PV] at h1; subst h1; exact h2
  | .n .., e, a, h1, h2 => by simp only [PV] at h1; subst h1; exact h2
  | .s _, e, a, h1, h2 => by simp only [PV] at h1; subst h1; exact h2
  | .pn, e, a, h1, h2 => by simp only [PV] at h1; subst h1; exact h2
  | .p .., e, a, h1, h2 => by simp only [PV] at h1; subst h1; exact h2
  | .l .., e, a, h1, h2 => by simp only [PV] at h1; subst h1; exact h2
  | .en, e, a, h1, h2 => by simp only [PV] at h1; subst h1; exact h2
  | .u, e, a, h1, h2 => by simp only [PV]
theorem PVs.trans {H : AH} {S : Nat → Prop} : ∀ (d e a : List AV), PVs H S d e → PVs H S e a → PVs H S d a
  | [], e, a, h1, h2 => by simp only [PVs] at h1; subst h1; exact h2
  | d :: ds, e, a, h1, h2 => by
    simp only [PVs] at h1 ⊢
    obtain ⟨v, r, rfl, h1, h3⟩ := h1
    simp only [PVs] at h2
    obtain ⟨u, q, rfl, h2, h4⟩ := h2
    exact ⟨u, q, rfl, PV.trans _ _ _ h1 h2, PVs.trans _ _ _ h3 h4⟩
theorem PVss.trans {H : AH} {S : Nat → Prop} : ∀ (d e a : List (List AV)), PVss H S d e → PVss H S e a → PVss H S d a
  | [], e, a, h1, h2 => by simp only [PVss] at h1; subst h1; exact h2
  | d :: ds, e, a, h1, h2 => by
    simp only [PVss] at h1 ⊢
    obtain ⟨v, r, rfl, h1, h3⟩ := h1
    simp only [PVss] at h2
    obtain ⟨u, q, rfl, h2, h4⟩ := h2
    exact ⟨u, q, rfl, PVs.trans _ _ _ h1 h2, PVss.trans _ _ _ h3 h4⟩
end

/-! ### Typed data name no blocks -/
section
variable {p : Nat → Prop}
theorem psA_dom : ∀ x : PS, (psA x).dom p
  | .nil => by simp only [psA, AV.dom]
  | .mk o l r k n s f kd d => by simp only [psA, AV.dom, AV.doms, psA_dom l, psA_dom r, and_self]
mutual
theorem ddA_dom : ∀ x : DD, AV.doms p (ddA x)
  | .mk w n s f g => by simp only [ddA, AV.dom, AV.doms, psA_dom s, ddsA_dom f, ddsA_dom g, and_self]
theorem ddsA_dom : ∀ x : List DD, AV.domss p (ddsA x)
  | [] => by simp only [ddsA, AV.domss]
  | d :: r => by simp only [ddsA, AV.domss, ddA_dom d, ddsA_dom r, and_self]
end
theorem doms_append : ∀ {a b : List AV}, AV.doms p a → AV.doms p b → AV.doms p (a ++ b)
  | [], b, _, h => h
  | x :: r, b, h1, h2 => by
    simp only [AV.doms, List.cons_append] at h1 ⊢
    exact ⟨h1.1, doms_append h1.2 h2⟩
theorem domss_map {α : Type} {f : α → List AV} (hf : ∀ x, AV.doms p (f x)) : ∀ l : List α, AV.domss p (l.map f)
  | [] => by simp only [List.map_nil, AV.domss]
  | x :: r => by simp only [List.map_cons, AV.domss]; exact ⟨hf x, domss_map hf r⟩
mutual
theorem cellsA_dom : ∀ (T : GT) (x : T.den), AV.doms p (cellsA T x)
  | .b, x => by simp only [cellsA, AV.doms, AV.dom, and_self]
  | .i k, x => by simp only [cellsA, AV.doms, AV.dom, and_self]
  | .s, x => by simp only [cellsA, AV.doms, AV.dom, and_self]
  | .st fs, x => by simp only [cellsA]; exact cellssA_dom fs x
  | .sl t, x => by
    simp only [cellsA, AV.doms, AV.dom, and_true]
    exact domss_map (fun y => cellsA_dom t y) x
  | .ps, x => by simp only [cellsA, AV.doms, and_true]; exact psA_dom x
  | .dd, x => by simp only [cellsA]; exact ddA_dom x
  | .fn g c, x => by simp only [cellsA, AV.doms, AV.dom, and_true]; exact valsA_dom c x
  | .pt t, x => by simp only [cellsA, AV.doms, AV.dom, and_true]; exact cellsA_dom t x
theorem cellssA_dom : ∀ (fs : List GT) (x : GT.dens fs), AV.doms p (cellssA fs x)
  | [], x => by simp only [cellssA, AV.doms]
  | t :: r, x => by simp only [cellssA]; exact doms_append (cellsA_dom t _) (cellssA_dom r _)
theorem valsA_dom : ∀ (fs : List GT) (x : GT.dens fs), AV.doms p (valsA fs x)
  | [], x => by simp only [valsA, AV.doms]
  | t :: r, x => by
    simp only [valsA, AV.doms]
    refine ⟨?_, valsA_dom r _⟩
    have h := cellsA_dom t (densHd x)
    cases ha : t.isAgg with
    | true => simp only [mkValA, AV.dom]; exact h
    | false =>
      cases hc : cellsA t (densHd x) with
      | nil => simp only [mkValA, AV.dom]
      | cons v q =>
        rw [hc] at h
        simp only [AV.doms] at h
        simp only [mkValA]; exact h.1
end
end

def encA : (Rs : List GT) → GT.dens Rs → AV
  | [T], x => valA T x
  | Rs, x => .t (valsA Rs x)

section
variable {P : Program} {O : Orac} {m : Mp} {H : Hp} {H1 : AH} {H0 : AH} {fr : Fr2} {fr1 : Fr}

theorem rres_ev (h : EH m H H1) (hf : FrE m fr fr1) : ∀ {res : List ARes} {vs : List V}, rres fr H res = (true, vs) → ∃ as, aress fr1 H1 res = some as ∧ EVs m vs as
  | [], vs, hr => by
    simp only [rres, Prod.mk.injEq, true_and] at hr
    subst hr
    exact ⟨[], rfl, EVs.nil⟩
  | .t k :: r, vs, hr => by
    simp only [rres, Prod.mk.injEq] at hr
    obtain ⟨h1, rfl⟩ := hr
    obtain ⟨as, ha, he⟩ := rres_ev h hf (Prod.ext h1 rfl)
    exact ⟨fr1 k :: as, by simp only [aress, ha, Option.map_some, Fr.get], EVs.cons (hf k) he⟩
  | .cell k sz ag :: r, vs, hr => by
    simp only [rres] at hr
    have e1 := hf k
    split at hr
    case h_2 => cases hr
    rename_i id i j hg
    split at hr
    case h_2 => cases hr
    rename_i kk rows hB
    split at hr
    case h_2 => cases hr
    rename_i row hrow
    simp only [Prod.mk.injEq, Bool.and_eq_true] at hr
    obtain ⟨⟨h1, h2⟩, rfl⟩ := hr
    obtain ⟨as, ha, he⟩ := rres_ev h hf (Prod.ext h2 rfl)
    rw [hg] at e1
    simp only [EV] at e1
    obtain ⟨a1, B, a2, a3, a4, a5⟩ := h.blk id (by rw [hB]; simp)
    rw [hB] at a3
    obtain ⟨row1, hr1, hre⟩ := a3.2.get hrow
    obtain ⟨a, hpa, hva⟩ := part_ev (Prod.ext h1 rfl) hre
    refine ⟨a :: as, ?_, EVs.cons hva he⟩
    simp only [aress, Fr.get, e1.2, AH.row, AH.get, a2, Option.bind_some, hr1, hpa, ha, Option.map_some]

theorem post_of {In : Nat → Prop} (hIn : ∀ j, ¬ In j) {Rs : List GT} {y : GT.dens Rs} {res : List ARes} (hd : decR Rs fr H res = some y) (h : EH m H H1) (hX : EX H0 In m H1) (hf : FrE m fr fr1) :
    ∃ r, ares fr1 H1 res = some r ∧ Post H0 (encA Rs y) r H1 := by
  unfold decR at hd
  generalize hr : rres fr H res = rr at hd
  obtain ⟨ok, vs⟩ := rr
  simp only [chk] at hd
  cases ok with
  | false => simp at hd
  | true =>
    cases ho : okvs Rs (frzs H vs) with
    | false => simp [ho] at hd
    | true =>
      simp only [ho, Bool.and_self, cond_true, Option.some.injEq] at hd
      obtain ⟨as, ha, he⟩ := rres_ev h hf hr
      have hS : ∀ id, H.get id ≠ .dead → m.φ id = 0 ∨ (H0.nx ≤ m.φ id ∧ ownP H1 (m.φ id)) := fun id hid => by
        obtain ⟨a1, B, a2, a3, a4, a5⟩ := h.blk id hid
        rcases hX.new id a1 with h1 | h1 | h1
        · exact .inr ⟨h1, B, a2, a4⟩
        · exact absurd h1 (hIn _)
        · exact .inl h1
      obtain ⟨ds, e1, e2⟩ := frzs_ev (S := fun id => H0.nx ≤ id ∧ ownP H1 id) h hS vs as he
      have e3 := unvs_ev h.z Rs _ _ e1 ho
      rw [hd] at e3
      have e4 := PVs.trans _ _ _ (vals_pv (S := fun id => H0.nx ≤ id ∧ ownP H1 id) h.nil Rs y ds e3) e2
      have hold : H0.Old H1 := ⟨hX.nx, fun j hj => hX.out j hj (hIn j)⟩
      have hdom := valsA_dom (p := (· < H0.nx)) Rs y
      simp only [ares, ha, Option.map_some]
      refine ⟨_, rfl, hold, ?_⟩
      match Rs, y, hdom, e4 with
      | [], y, hdom, e4 =>
        simp only [valsA, PVs] at e4
        subst e4
        simp only [encA, valsA, PV, PVs, AV.dom, AV.doms]
        exact ⟨⟨[], rfl, rfl⟩, trivial⟩
      | [T], y, hdom, e4 =>
        simp only [valsA, PVs] at e4
        obtain ⟨a, q, e6, e5, e7⟩ := e4
        subst e7
        subst e6
        simp only [valsA, AV.doms] at hdom
        simp only [encA, valA]
        exact ⟨e5, hdom.1⟩
      | T :: U :: r, y, hdom, e4 =>
        simp only [encA]
        have hl := e4.length
        match as, hl, e4 with
        | [v], hl, _ => simp [valsA] at hl
        | [], hl, _ => simp [valsA] at hl
        | a1 :: a2 :: q, _, e4 =>
          simp only [PV, AV.dom]
          exact ⟨⟨_, rfl, e4⟩, hdom⟩

theorem ofArgs_ev : ∀ {vs : List V} {as : List AV} {i : Nat} {pre : List AV}, pre.length = i → EVs m vs as → FrE m (Fr2.ofArgs i vs) (Fr.ofList (pre ++ as))
  | [], as, i, pre, hi, h => fun t => by simp only [Fr2.ofArgs, Fr2.get, EV]
  | v :: r, as, i, pre, hi, h => fun t => by
    obtain ⟨a, q, rfl, h1, h2⟩ := h.inv
    simp only [Fr2.ofArgs, Fr2.get]
    cases e : Nat.beq i t with
    | true =>
      have := Nat.eq_of_beq_eq_true e
      subst this
      simp only [cond_true, Fr.ofList]
      have : (pre ++ a :: q).getD i (.t []) = a := by
        rw [List.getD_eq_getElem?_getD, List.getElem?_append_right (by omega), hi]
        simp
      rw [this]; exact h1
    | false =>
      simp only [cond_false]
      have := ofArgs_ev (i := i + 1) (pre := pre ++ [a]) (by simp [hi]) h2 t
      simpa using this

theorem vals_len : ∀ (Ts : List GT) (x : GT.dens Ts), (vals Ts x).length = Ts.length
  | [], x => by simp only [vals, List.length_nil]
  | t :: r, x => by simp only [vals, List.length_cons, vals_len r]
/-- A function's contract out of its run. -/
theorem Pf.of_run (hm : P.follows .mixedOrders = true) {f : FuncId} {fn : Func} (hf : P.funcs[f]? = some fn) (hok : okFn P f = true) {A : F2} (hc : checkFn P fn A.toA = true) (hw : A.body.wf = true) (hO : OrcOk P O)
    {Ts Rs : List GT} (hl : Ts.length = A.np) {N : Nat} {x : GT.dens Ts} {y : GT.dens Rs} (hr : runF O N A Rs (vals Ts x) = some y) : Pf P f (valsA Ts x) (encA Rs y) := by
  refine ⟨hok, fun H ρ w cargs hR ha => ?_⟩
  have key : afn (env P) A.toA (valsA Ts x) H (Post H (encA Rs y)) := by
    have he := ev_vals ⟨fun _ => 0, fun _ => 0, 1⟩ Ts x
    refine ⟨by rw [he.length, vals_len]; exact hl, ?_⟩
    have hH : EH ⟨fun _ => 0, fun _ => 0, 1⟩ Hp.empty H := by
      refine ⟨rfl, by simp, rfl, rfl, rfl, hR.nil.1, fun i j _ _ _ => .inr rfl, fun i _ => hR.nx_pos, fun id hid => absurd rfl hid⟩
    have hX : EX H (fun _ => False) ⟨fun _ => 0, fun _ => 0, 1⟩ H := ⟨Nat.le_refl _, fun _ _ _ => rfl, fun _ _ => .inr (.inr rfl)⟩
    have hfr := ofArgs_ev (i := 0) (pre := []) rfl he
    simp only [List.nil_append] at hfr
    refine rcode_sound hO A.body _ _ _ hr hw _ _ H hH hX hfr _ (fun e => ?_) ?_
    · cases e with
      | none => exact fun fr' H' h' m' fr1' H1' q1 q2 q3 => post_of (fun _ h => h) h' q1 q2 q3
      | some id => exact fun fr' H' h' => by cases h'
    · exact fun fr' H' h' m' fr1' H1' q1 q2 q3 => post_of (fun _ h => h) h' q1 q2 q3
  exact Ct.tidy (R := fun r H' => r = encA Rs y ∧ H' = H) ((Ct.of_afn hm hf hc key).mono fun _ _ ⟨h1, h2, h3⟩ => ⟨h1, _, h2, h3, rfl, rfl⟩) ρ w cargs hR ha

/-! ### How a contract answers -/
theorem snap_none {ρ : Ren} {w : World} : ρ.snap (fun _ => False) H1 w = ρ := by
  cases ρ with
  | mk loc con =>
    simp only [Ren.snap, Ren.mk.injEq, true_and]
    funext b o
    cases hc : con b o with
    | some v => simp
    | none =>
      simp only
      rw [if_neg]
      rintro ⟨id, B, l, h, _⟩
      exact h
theorem Pf.view {f : FuncId} {args args' : List AV} {d : AV} (h : Pf P f args d) (hv : ∀ H : AH, H.m 0 = some nilBlk → PVs H (fun _ => False) args args') : Pf P f args' d := by
  refine ⟨h.1, fun H ρ w cargs hR ha => h.2 H ρ w cargs hR ?_⟩
  have := VRs.view hR (S := fun _ => False) _ _ _ (hv H hR.nil.1) ha
  rwa [snap_none] at this
/-- An entry of what is known of callees. -/
def Entry (P : Program) (g : FuncId) (o : List V → Bool × V) : Prop := ∀ vs v, o vs = (true, v) → ∀ (m : Mp) vs1, m.φ 0 = 0 → EVs m vs vs1 → ∃ d, Pf P g vs1 d ∧ ∀ m' : Mp, EV m' v d
theorem encR_ev (m : Mp) (Rs : List GT) (y : GT.dens Rs) : EV m (encR Rs y) (encA Rs y) := by
  match Rs, y with
  | [], y => simp only [encR, encA, vals, valsA, EV]; exact ⟨[], rfl, EVs.nil⟩
  | [T], y => exact ev_val m T y
  | T :: U :: r, y => simp only [encR, encA, EV]; exact ⟨_, rfl, ev_vals m _ y⟩
theorem Entry.of {g : FuncId} {Ts Rs : List GT} {pre : GT.dens Ts → Bool} {G : GT.dens Ts → GT.dens Rs} (h : ∀ x, pre x = true → Pf P g (valsA Ts x) (encA Rs (G x))) : Entry P g (mkO Ts Rs pre G) := by
  intro vs v hv m vs1 hz he
  simp only [mkO, Prod.mk.injEq, Bool.and_eq_true] at hv
  obtain ⟨⟨h1, h2⟩, rfl⟩ := hv
  exact ⟨_, (h _ h2).view fun H hH => vals_pv hH Ts _ vs1 (unvs_ev hz Ts vs vs1 he h1), fun m' => encR_ev m' Rs _⟩
def Entries (P : Program) : List (FuncId × (List V → Bool × V)) → Prop
  | [] => True
  | (g, o) :: r => Entry P g o ∧ Entries P r
def Eqs (P : Program) : List (TypeId × List Nat) → Prop
  | [] => True
  | (t, ks) :: r => (EqOk P t ks ∧ ∀ k ∈ ks, k < 99) ∧ Eqs P r
theorem OrcOk.of : ∀ {c : List (FuncId × (List V → Bool × V))} {e : List (TypeId × List Nat)}, Entries P c → Eqs P e → OrcOk P (orc c e) := by
  intro c e hc he
  refine ⟨?_, ?_, ?_, ?_⟩
  · intro g vs v hv
    have : ∀ c, Entries P c → ctL c g vs = (true, v) → ∀ (m : Mp) vs1, m.φ 0 = 0 → EVs m vs vs1 → ∃ d, Pf P g vs1 d ∧ ∀ m' : Mp, EV m' v d := by
      intro c
      induction c with
      | nil => intro _ h; simp [ctL] at h
      | cons x r ih =>
        obtain ⟨g', o⟩ := x
        intro h1 h2
        simp only [ctL] at h2
        cases eb : Nat.beq g' g with
        | true =>
          have := Nat.eq_of_beq_eq_true eb
          subst this
          rw [eb] at h2
          exact h1.1 vs v h2
        | false => rw [eb] at h2; exact ih h1.2 h2
    exact this c hc hv
  · intro ty
    have : ∀ e, Eqs P e → eqTab e ty ≠ [] → EqOk P ty (eqTab e ty) ∧ ∀ k ∈ eqTab e ty, k < 99 := by
      intro e
      induction e with
      | nil => intro _ h; simp [eqTab] at h
      | cons x r ih =>
        obtain ⟨g', o⟩ := x
        intro h1 h2
        simp only [eqTab] at h2 ⊢
        cases eb : Nat.beq g' ty with
        | true =>
          have := Nat.eq_of_beq_eq_true eb
          subst this
          exact h1.1
        | false => rw [eb] at h2; exact ih h1.2 h2
    exact this e he
  · intro g vs H v H' h; simp [orc, Tr.bad] at h
  · intro g vs H v H' h; simp [orc, Tr.bad] at h
end
end Go.Proofs.Ytamnlngihccgiaa.AM
