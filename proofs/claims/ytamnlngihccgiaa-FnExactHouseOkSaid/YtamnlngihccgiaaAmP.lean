/- Code, second part: regions that draw their order, loops, whole functions. -/
import Derived.Test.YtamnlngihccgiaaAmPb
namespace Go.Proofs.Ytamnlngihccgiaa.AM
set_option linter.all false
open Go
section
variable {P : Program} {nt : Nat} {ρ0 : Ren} {H0 : AH} {w0 : World} {ρ : Ren} {fr : Fr} {H : AH} {a : Act} {w : World}

/-- What was there when a region began is as it was, but for the blocks that it may write. -/
structure Held (ρs : Ren) (Hs : AH) (ws : World) (Wd : List Nat) (w : World) : Prop where
  l : ∀ id l, id ∉ Wd → (Hs.get id).isSome = true → ρs id = some (some l) → w.heap[l.b]? = ws.heap[l.b]?
  c : ∀ b o v, ρs.con b o = some v → w.heap[b]? = ws.heap[b]?

/-- Within a region that began at (ρs, Hs, ws). -/
structure Within (ρs : Ren) (Hs : AH) (ws : World) (Wd : List Nat) (ρ : Ren) (H : AH) (w : World) : Prop where
  le : ρs.Le ρ
  size : ws.heap.size ≤ w.heap.size
  held : Held ρs Hs ws Wd w
  own : ∀ id B l, H.m id = some B → B.own = true → ρ id = some (some l) → (id ∈ Wd ∨ Hs.get id = none) →
    ws.heap.size ≤ l.b ∨ ∃ id0 l0, id0 ∈ Wd ∧ ownP Hs id0 ∧ ρs id0 = some (some l0) ∧ l0.b = l.b

theorem Within.start {ρs : Ren} {Hs : AH} {ws : World} {Wd : List Nat} : Within ρs Hs ws Wd ρs Hs ws where
  le := Ren.Le.refl _
  size := Nat.le_refl _
  held := ⟨fun _ _ _ _ _ => rfl, fun _ _ _ _ => rfl⟩
  own := fun id B l h1 h2 h3 h4 => by
    rcases h4 with h | h
    · exact .inr ⟨id, l, h, ⟨B, h1, h2⟩, h3, rfl⟩
    · rw [AH.get, h1] at h; cases h

theorem Within.agree {ρs : Ren} {Hs : AH} {ws : World} {Wd : List Nat} (hRs : Rel ρs Hs ws) (hW : Within ρs Hs ws Wd ρ H w) {w' : World} (h : Held ρs Hs ws Wd w') :
    Agree (rdq Wd Hs) ρ w w' where
  l := by
    intro id l hrd hl
    obtain ⟨_, h1, h2⟩ := hrd
    obtain ⟨B, hB⟩ := Option.isSome_iff_exists.1 h2
    obtain ⟨x, hx, _⟩ := hRs.blk id B hB
    have := hW.le.l id x hx
    rw [hl] at this
    simp only [Option.some.injEq] at this
    subst this
    rw [h.l id l h1 h2 hx, hW.held.l id l h1 h2 hx]
  c := fun h0 => absurd rfl h0.1
theorem Held.agree {ρs : Ren} {Hs : AH} {ws : World} {Wd : List Nat} (hRs : Rel ρs Hs ws) {w' : World} (h : Held ρs Hs ws Wd w') : Agree (rdp Wd Hs) ρs ws w' where
  l := by
    intro id l hrd hl
    rcases hrd with rfl | ⟨h1, h2⟩
    · rw [hRs.nil.2] at hl; cases hl
    · exact h.l id l h1 h2 hl
  c := fun _ b o v hb => h.c b o v hb

theorem Within.step {ρs : Ren} {Hs : AH} {ws : World} {Wd : List Nat} (hRs : Rel ρs Hs ws) (hW : Within ρs Hs ws Wd ρ H w) {ρ' : Ren} {H' : AH} {w' : World}
    (hre : Reach (WP H fun id => id ∈ Wd ∨ Hs.get id = none) ρ H w ρ' H' w') : Within ρs Hs ws Wd ρ' H' w' where
  le := hW.le.trans hre.ren
  size := Nat.le_trans hW.size hre.size
  held := by
    constructor
    · intro id l h1 h2 h3
      rw [← hW.held.l id l h1 h2 h3]
      have hfit := hRs.fit id l h3
      refine hre.keep l.b (Nat.lt_of_lt_of_le hfit hW.size) fun id' l' ⟨⟨B', hB', ho'⟩, hp⟩ hl' e => ?_
      obtain ⟨Bs, hBs⟩ := Option.isSome_iff_exists.1 h2
      rcases hW.own id' B' l' hB' ho' hl' hp with h | ⟨id0, l0, hw0, ⟨B0, hB0, ho0⟩, hl0, e0⟩
      · omega
      · exact hRs.sep id0 id B0 Bs l0 l hB0 hBs hl0 h3 ho0 (fun e1 => h1 (e1 ▸ hw0)) (e0.trans e)
    · intro b o v hb
      rw [← hW.held.c b o v hb]
      have hfit := (hRs.con b o v hb).2
      refine hre.keep b (Nat.lt_of_lt_of_le hfit hW.size) fun id' l' ⟨⟨B', hB', ho'⟩, hp⟩ hl' e => ?_
      rcases hW.own id' B' l' hB' ho' hl' hp with h | ⟨id0, l0, hw0, ⟨B0, hB0, ho0⟩, hl0, e0⟩
      · omega
      · have := hRs.conOwn id0 B0 l0 hB0 hl0 ho0 o
        rw [e0, e, hb] at this; cases this
  own := fun id B l h1 h2 h3 h4 => by
    rcases hre.own id B l h1 h2 h3 with h | ⟨id1, l1, ⟨B1, hB1, ho1⟩, hor, hl1, e1⟩
    · exact .inl (Nat.le_trans hW.size h)
    · rcases hW.own id1 B1 l1 hB1 ho1 hl1 (by rcases hor with rfl | hor; exact h4; exact hor.2) with h | ⟨id0, l0, a1, a2, a3, a4⟩
      · exact .inl (by omega)
      · exact .inr ⟨id0, l0, a1, a2, a3, a4.trans e1⟩

/-- A quiet operation behind its guard yields one value wherever the old blocks are as they were. -/
theorem ago_quiet {pw : Nat → Prop} {ρs : Ren} {Hs : AH} {ws : World} {Wd : List Nat} (hRs : Rel ρs Hs ws) (hW : Within ρs Hs ws Wd ρ H w) {ops : List Oper} {o : Oper} {x : AO} (hc : checkO P nt ops o x = true)
    (hd : ∀ t, (∃ (j : Nat) (o' : Oper), ops[j]? = some o' ∧ o'.dst = some t) → t < nt) (hS : St nt ρ0 H0 w0 ρ fr H a w) (hq : x.o.quiet = true) {K : Fr → AH → Prop}
    (h : ago (env P) pw (rdq Wd Hs) x fr H K) :
    ∃ v fr', YieldsIf P ops.toArray (Held ρs Hs ws Wd) o v a ∧ St nt ρ0 H0 w0 ρ fr' H (a.put o.dst v) w ∧ K fr' H := by
  simp only [checkO, Bool.and_eq_true, beq_iff_eq] at hc
  obtain ⟨⟨⟨hdst, _⟩, hg⟩, hop⟩ := hc
  have perform : Region.wanted o (yielded ops.toArray a.tmps) = true → aop (env P) pw (rdq Wd Hs) x.o fr H (fun v H' => K (fr.setO x.d v) H') → ∃ v fr', YieldsIf P ops.toArray (Held ρs Hs ws Wd) o v a ∧ St nt ρ0 H0 w0 ρ fr' H (a.put o.dst v) w ∧ K fr' H := fun hw h => by
    have hg : ∃ cv av, K (fr.setO x.d av) H ∧ VR ρ av cv ∧ ∀ w', Agree (rdq Wd Hs) ρ w w' → (execOp a.eval o).run P w' = .ok (.value cv) w' := Gives.of_quiet hS.fr hS.sz hS.rel hq hop h
    obtain ⟨cv, av, hK, hv, hr⟩ := hg
    refine ⟨cv, fr.setO x.d av, .inl ⟨hw, fun w' hw' => hr w' (hW.agree hRs hw')⟩, ?_, hK⟩
    rw [hdst]; exact hS.step (pw := pw) hv hS.rel (Reach.refl _ _ _ _)
  have skip : Region.wanted o (yielded ops.toArray a.tmps) = false → K (fr.setO x.d (.t [])) H → ∃ v fr', YieldsIf P ops.toArray (Held ρs Hs ws Wd) o v a ∧ St nt ρ0 H0 w0 ρ fr' H (a.put o.dst v) w ∧ K fr' H := fun hw h =>
    ⟨undef, _, .inr ⟨hw, rfl⟩, by rw [hdst]; exact hS.step (pw := pw) vr_undef hS.rel (Reach.refl _ _ _ _), h⟩
  unfold ago at h
  rcases guard_wanted hg hd hS with ⟨hgn, hw⟩ | ⟨t, want, hgs, hcase⟩
  · rw [hgn] at h
    exact perform hw h
  · rw [hgs] at h
    simp only at h
    rcases hcase with ⟨c, hfr, hw⟩ | ⟨hfr, hw⟩ | ⟨h1, h2⟩
    · rw [hfr] at h
      simp only at h
      by_cases hcw : c = want
      · rw [if_pos hcw] at h
        exact perform (by rw [hw, hcw]; simp) h
      · rw [if_neg hcw] at h
        exact skip (by rw [hw]; simpa using hcw) h
    · rw [hfr] at h
      exact skip hw h
    · split at h
      · rename_i c hfr; exact absurd hfr (h1 c)
      · rename_i hfr; exact absurd hfr h2
      · exact h.elim
/-- One that is reckoned out of what was there when the region began. -/
theorem agg_quiet {ρs : Ren} {Hs : AH} {ws : World} {Wd : List Nat} (hRs : Rel ρs Hs ws) (hW : Within ρs Hs ws Wd ρ H w) {gd : Fr} (hG : FrOk ρs gd a) {ops : List Oper} {o : Oper} {x : AO} (hc : checkO P nt ops o x = true)
    (hd : ∀ t, (∃ (j : Nat) (o' : Oper), ops[j]? = some o' ∧ o'.dst = some t) → t < nt) (hS : St nt ρ0 H0 w0 ρ fr H a w) (hq : x.o.quiet = true) {K : AV → Prop}
    (h : agg (env P) (rdp Wd Hs) x gd Hs fr K) :
    ∃ v av, YieldsIf P ops.toArray (Held ρs Hs ws Wd) o v a ∧ St nt ρ0 H0 w0 ρ (fr.setO x.d av) H (a.put o.dst v) w ∧ FrOk ρs (gd.setO x.d av) (a.put o.dst v) ∧ K av := by
  simp only [checkO, Bool.and_eq_true, beq_iff_eq] at hc
  obtain ⟨⟨⟨hdst, _⟩, hg⟩, hop⟩ := hc
  have perform : Region.wanted o (yielded ops.toArray a.tmps) = true → aop (env P) (fun _ => False) (rdp Wd Hs) x.o gd Hs (fun v _ => K v) → ∃ v av, YieldsIf P ops.toArray (Held ρs Hs ws Wd) o v a ∧ St nt ρ0 H0 w0 ρ (fr.setO x.d av) H (a.put o.dst v) w ∧ FrOk ρs (gd.setO x.d av) (a.put o.dst v) ∧ K av := fun hw h => by
    have hg : ∃ cv av, K av ∧ VR ρs av cv ∧ ∀ w', Agree (rdp Wd Hs) ρs ws w' → (execOp a.eval o).run P w' = .ok (.value cv) w' := Gives.of_quiet hG hS.sz hRs hq hop h
    obtain ⟨cv, av, hK, hv, hr⟩ := hg
    refine ⟨cv, av, .inl ⟨hw, fun w' hw' => hr w' (hw'.agree hRs)⟩, ?_, ?_, hK⟩
    · rw [hdst]; exact hS.step (pw := fun _ => False) (VR.mono hW.le _ _ hv) hS.rel (Reach.refl _ _ _ _)
    · rw [hdst]; exact hG.put x.d hv
  have skip : Region.wanted o (yielded ops.toArray a.tmps) = false → K (.t []) → ∃ v av, YieldsIf P ops.toArray (Held ρs Hs ws Wd) o v a ∧ St nt ρ0 H0 w0 ρ (fr.setO x.d av) H (a.put o.dst v) w ∧ FrOk ρs (gd.setO x.d av) (a.put o.dst v) ∧ K av := fun hw h =>
    ⟨undef, .t [], .inr ⟨hw, rfl⟩, by rw [hdst]; exact hS.step (pw := fun _ => False) vr_undef hS.rel (Reach.refl _ _ _ _), by rw [hdst]; exact hG.put x.d vr_undef, h⟩
  unfold agg at h
  rcases guard_wanted hg hd hS with ⟨hgn, hw⟩ | ⟨t, want, hgs, hcase⟩
  · rw [hgn] at h
    exact perform hw h
  · rw [hgs] at h
    simp only at h
    rcases hcase with ⟨c, hfr, hw⟩ | ⟨hfr, hw⟩ | ⟨h1, h2⟩
    · rw [hfr] at h
      simp only at h
      by_cases hcw : c = want
      · rw [if_pos hcw] at h
        exact perform (by rw [hw, hcw]; simp) h
      · rw [if_neg hcw] at h
        exact skip (by rw [hw]; simpa using hcw) h
    · rw [hfr] at h
      exact skip hw h
    · split at h
      · rename_i c hfr; exact absurd hfr (h1 c)
      · rename_i hfr; exact absurd hfr h2
      · exact h.elim

mutual
theorem aplan_sound {ρs : Ren} {Hs : AH} {ws : World} {Wd : List Nat} (hRs : Rel ρs Hs ws) {ops : List Oper} {xs : List AO} (hc : checkOs P nt ops ops xs = true) (hsel : Region.noSelect ops.toArray = true) {Q : Ex → Fr → AH → Prop} :
    ∀ (p : Plan) (gd : Fr) (listed : Array Bool) (ρ : Ren) (fr : Fr) (H : AH) (a : Act) (w : World), planOk ops.toArray xs p listed = true → St nt ρ0 H0 w0 ρ fr H a w → Within ρs Hs ws Wd ρ H w → FrOk ρs gd a →
      aplan (env P) Wd Hs xs p gd fr H (Q .normal) → ∀ fuel, p.depth ≤ fuel → wpAnyH P .any ops.toArray (LiftE nt ρ0 H0 w0 Q) (Held ρs Hs ws Wd) fuel listed a w
  | .done, gd, listed, ρ, fr, H, a, w, hp, hS, hW, hG, h, fuel, hfl => by
    simp only [planOk, List.isEmpty_iff] at hp
    exact wpAnyH_done hp (show LiftE nt ρ0 H0 w0 Q .normal a w from ⟨ρ, fr, H, hS, by simpa only [aplan] using h⟩) fuel
  | .take i p, gd, listed, ρ, fr, H, a, w, hp, hS, hW, hG, h, fuel, hfl => by
    obtain ⟨fuel, rfl⟩ : ∃ f, fuel = f + 1 := ⟨fuel - 1, by simp only [Plan.depth] at hfl; omega⟩
    have hfl : p.depth ≤ fuel := by simp only [Plan.depth] at hfl; omega
    simp only [planOk, Bool.and_eq_true] at hp
    obtain ⟨⟨⟨h1, h2⟩, h3⟩, h4⟩ := hp
    simp only [aplan] at h
    split at h
    case h_2 => exact h.elim
    rename_i x hx
    rw [hx] at h3
    simp only at h3
    obtain ⟨o, ho, hco⟩ := checkOs_get hc i x hx
    have hdst : o.dst = x.d := by
      simp only [checkO, Bool.and_eq_true, beq_iff_eq] at hco
      exact hco.1.1.1
    rcases h with h | h
    · obtain ⟨v, av, hy, hS', hG', hK⟩ := agg_quiet hRs hW hG hco (fun t ⟨j, o', hj, hd⟩ => checkOs_dst hc j o' t hj hd) hS h3 h
      have hf := aplan_sound hRs hc hsel p _ _ ρ _ H _ w h4 hS' hW hG' hK fuel hfl
      exact wpAnyH_take (i := i) (oi := o) (v := v) (by simpa using ho) hsel h2 h1 (fun _ _ _ h => h) hy hW.held hf
    · obtain ⟨v, fr', hy, hS', hK⟩ := ago_quiet hRs hW hco (fun t ⟨j, o', hj, hd⟩ => checkOs_dst hc j o' t hj hd) hS h3 h
      have hf := aplan_sound hRs hc hsel p _ _ ρ fr' H _ w h4 hS' hW (by rw [← hdst]; exact hG.put o.dst (by simp only [VR])) hK fuel hfl
      exact wpAnyH_take (i := i) (oi := o) (v := v) (by simpa using ho) hsel h2 h1 (fun _ _ _ h => h) hy hW.held hf
  | .all ps, gd, listed, ρ, fr, H, a, w, hp, hS, hW, hG, h, fuel, hfl => by
    obtain ⟨fuel, rfl⟩ : ∃ f, fuel = f + 1 := ⟨fuel - 1, by simp only [Plan.depth] at hfl; omega⟩
    have hfl : Plan.depths ps ≤ fuel := by simp only [Plan.depth] at hfl; omega
    simp only [planOk, Bool.and_eq_true, beq_iff_eq, Bool.not_eq_true', List.isEmpty_eq_false_iff] at hp
    obtain ⟨⟨h1, h2⟩, h3⟩ := hp
    simp only [aplan] at h
    have hf := aplans_sound hRs hc hsel ps gd listed ρ fr H a w h3 hS hW hG h fuel hfl
    exact wpAnyH_all h1 (by simpa using h2) fun i hi => by
      simp only [List.mem_map] at hi
      obtain ⟨⟨j, p⟩, hjp, rfl⟩ := hi
      exact hf j p hjp
theorem aplans_sound {ρs : Ren} {Hs : AH} {ws : World} {Wd : List Nat} (hRs : Rel ρs Hs ws) {ops : List Oper} {xs : List AO} (hc : checkOs P nt ops ops xs = true) (hsel : Region.noSelect ops.toArray = true) {Q : Ex → Fr → AH → Prop} :
    ∀ (ps : List (Nat × Plan)) (gd : Fr) (listed : Array Bool) (ρ : Ren) (fr : Fr) (H : AH) (a : Act) (w : World), plansOk ops.toArray xs ps listed = true → St nt ρ0 H0 w0 ρ fr H a w → Within ρs Hs ws Wd ρ H w → FrOk ρs gd a →
      aplans (env P) Wd Hs xs ps gd fr H (Q .normal) → ∀ fuel, Plan.depths ps ≤ fuel → ∀ i p, (i, p) ∈ ps →
        wpOp P ops.toArray (LiftE nt ρ0 H0 w0 Q) i (fun a' w' => Held ρs Hs ws Wd w' ∧ wpAnyH P .any ops.toArray (LiftE nt ρ0 H0 w0 Q) (Held ρs Hs ws Wd) fuel (listed.setIfInBounds i true) a' w') a w
  | [], _, _, _, _, _, _, _, _, _, _, _, _, _, _, _, _, h => by cases h
  | (i, p) :: r, gd, listed, ρ, fr, H, a, w, hp, hS, hW, hG, h, fuel, hfl, i', p', hm => by
    simp only [plansOk, Bool.and_eq_true] at hp
    simp only [aplans] at h
    simp only [Plan.depths] at hfl
    rw [List.mem_cons] at hm
    by_cases hm' : (i', p') = (i, p)
    · simp only [Prod.mk.injEq] at hm'
      obtain ⟨rfl, rfl⟩ := hm'
      obtain ⟨h, _⟩ := h
      split at h
      case h_2 => exact h.elim
      rename_i x hx
      obtain ⟨o, ho, hco⟩ := checkOs_get hc i' x hx
      have hdst : o.dst = x.d := by
        simp only [checkO, Bool.and_eq_true, beq_iff_eq] at hco
        exact hco.1.1.1
      have := ago_sound (P := P) (Q := LiftE nt ρ0 H0 w0 Q) hco (fun t ⟨j, o', hj, hd⟩ => checkOs_dst hc j o' t hj hd) hS h
        (next := fun a' w' => Held ρs Hs ws Wd w' ∧ wpAnyH P .any ops.toArray (LiftE nt ρ0 H0 w0 Q) (Held ρs Hs ws Wd) fuel (listed.setIfInBounds i' true) a' w')
        (fun ρ' fr' H' cv w' hS' hre hK => ⟨(hW.step hRs hre).held, aplan_sound hRs hc hsel p' _ _ ρ' fr' H' _ w' hp.1 hS' (hW.step hRs hre) (by rw [← hdst]; exact hG.put o.dst (by simp only [VR])) hK fuel (by omega)⟩)
      unfold wpOp
      simp only [List.getElem?_toArray, ho]
      split
      · rename_i hw; rw [if_pos hw] at this; exact .inl this
      · rename_i hw; rw [if_neg hw] at this; exact this
    · exact aplans_sound hRs hc hsel r gd listed ρ fr H a w hp.2 hS hW hG h.2 fuel (by omega) i' p' (by rcases hm with hm | hm; exact absurd hm hm'; exact hm)
end

theorem St.drawn (hS : St nt ρ0 H0 w0 ρ fr H a w) : St nt ρ0 H0 w0 ρ fr H a { w with drawn := w.drawn + 1 } where
  fr := hS.fr
  sz := hS.sz
  rel := hS.rel.heap rfl
  re := ⟨hS.re.ren, hS.re.nx, hS.re.size, hS.re.keep, hS.re.own, hS.re.ro, hS.re.con, hS.re.env⟩
  df := hS.df

/-- What the abstract weakest precondition says, the model's code does. -/
theorem awp_sound (hm : P.follows .mixedOrders = true) : ∀ (x : ACode) (c : Code) (Q : Ex → Fr → AH → Prop) (ρ : Ren) (fr : Fr) (H : AH) (a : Act) (w : World), check P nt c x = true → St nt ρ0 H0 w0 ρ fr H a w →
    awp (env P) x fr H Q → c.wp P (LiftE nt ρ0 H0 w0 Q) a w
  | .skip, c, Q, ρ, fr, H, a, w, hc, hS, h => by
    cases c <;> simp only [check, Bool.false_eq_true] at hc
    simp only [awp] at h
    exact wp_skip ⟨ρ, fr, H, hS, h⟩
  | .reg xs, c, Q, ρ, fr, H, a, w, hc, hS, h => by
    cases c <;> try simp only [check, Bool.false_eq_true] at hc
    rename_i id ops d
    cases d <;> simp only [check, Bool.false_eq_true] at hc
    simp only [awp] at h
    exact wp_region_list (aops_sound (fun t ⟨j, o', hj, hd⟩ => checkOs_dst hc j o' t hj hd) ops.toList xs hc ρ fr H a w hS h)
  | .dreg p xs, c, Q, ρ, fr, H, a, w, hc, hS, h => by
    cases c <;> try simp only [check, Bool.false_eq_true] at hc
    rename_i id ops d
    cases d <;> simp only [check, Bool.false_eq_true, Bool.and_eq_true, decide_eq_true_eq] at hc
    obtain ⟨⟨⟨hc, hsel⟩, hp⟩, hd⟩ := hc
    simp only [awp] at h
    obtain ⟨Wd, h⟩ := h
    exact wp_region_held hm (aplan_sound (ops := ops.toList) (Wd := Wd) hS.drawn.rel hc hsel p fr _ ρ fr H a _ hp hS.drawn Within.start hS.fr h ops.size hd)
  | .seq x y, c, Q, ρ, fr, H, a, w, hc, hS, h => by
    cases c <;> simp only [check, Bool.false_eq_true, Bool.and_eq_true] at hc
    rename_i c1 c2
    simp only [awp] at h
    refine wp_seq (wp_mono (awp_sound hm x c1 _ ρ fr H a w hc.1 hS h) fun e a' w' hq => ?_)
    cases e with
    | normal =>
      obtain ⟨ρ', fr', H', hS', hq⟩ := hq
      exact awp_sound hm y c2 Q ρ' fr' H' a' w' hc.2 hS' hq
    | exit id => exact hq
    | ret => exact hq
    | _ => exact hq.elim
  | .cond c' x y, c, Q, ρ, fr, H, a, w, hc, hS, h => by
    cases c <;> simp only [check, Bool.false_eq_true, Bool.and_eq_true] at hc
    rename_i o c1 c2
    simp only [awp] at h
    have hv := odOk.VR hS.fr hS.sz hS.rel.nil.2 hc.1.1
    split at h
    case h_2 => exact h.elim
    rename_i b hb
    rw [hb] at hv
    simp only [VR] at hv
    exact wp_cond_split hv (fun e => awp_sound hm x c1 Q ρ fr H a w hc.1.2 hS (h.1 e)) (fun e => awp_sound hm y c2 Q ρ fr H a w hc.2 hS (h.2 e))
  | .block j x, c, Q, ρ, fr, H, a, w, hc, hS, h => by
    cases c <;> simp only [check, Bool.false_eq_true, Bool.and_eq_true, beq_iff_eq] at hc
    rename_i i c1
    obtain ⟨rfl, hc⟩ := hc
    simp only [awp] at h
    refine wp_block (wp_mono (awp_sound hm x c1 _ ρ fr H a w hc hS h) fun e a' w' hq => ?_)
    cases e with
    | normal => exact hq
    | exit id =>
      obtain ⟨ρ', fr', H', hS', hq⟩ := hq
      simp only [exBlock] at hq
      simp only [Exit.inBlock]
      split at hq
      · rename_i e; rw [if_pos e]; exact ⟨ρ', fr', H', hS', hq⟩
      · rename_i e; rw [if_neg e]; exact ⟨ρ', fr', H', hS', hq⟩
    | ret => exact hq
    | _ => exact hq.elim
  | .loop x, c, Q, ρ, fr, H, a, w, hc, hS, h => by
    cases c <;> simp only [check, Bool.false_eq_true] at hc
    rename_i c1
    simp only [awp] at h
    obtain ⟨I, n, h0, hr⟩ := h
    refine wp_loop_ghost (fun n a w => Lift nt ρ0 H0 w0 (I n) a w) n ⟨ρ, fr, H, hS, h0⟩ fun n a w ⟨ρ', fr', H', hS', hI⟩ => ?_
    refine wp_mono (awp_sound hm x c1 _ ρ' fr' H' a w hc hS' (hr n fr' H' hI)) fun e a' w' hq => ?_
    cases e with
    | normal =>
      obtain ⟨ρ2, fr2, H2, hS2, n', hlt, hI'⟩ := hq
      exact ⟨n', hlt, ρ2, fr2, H2, hS2, hI'⟩
    | exit id => exact hq
    | ret => exact hq
    | _ => exact hq.elim
  | .fz x, c, Q, ρ, fr, H, a, w, hc, hS, h => by
    have hc : check P nt c x = true := by
      cases c <;> simpa only [check] using hc
    simp only [awp] at h
    obtain ⟨S, fr', H', hz, h⟩ := h
    obtain ⟨ρ', hS'⟩ := hz.sound hS
    exact awp_sound hm x c Q ρ' fr' H' a w hc hS' h
  | .exit j, c, Q, ρ, fr, H, a, w, hc, hS, h => by
    cases c <;> simp only [check, Bool.false_eq_true, beq_iff_eq] at hc
    subst hc
    simp only [awp] at h
    exact wp_exit ⟨ρ, fr, H, hS, h⟩
  | .ret, c, Q, ρ, fr, H, a, w, hc, hS, h => by
    cases c <;> simp only [check, Bool.false_eq_true] at hc
    simp only [awp] at h
    exact wp_ret ⟨ρ, fr, H, hS, h⟩
  | .bad, c, Q, ρ, fr, H, a, w, hc, hS, h => by
    simp only [awp] at h
end
end Go.Proofs.Ytamnlngihccgiaa.AM
