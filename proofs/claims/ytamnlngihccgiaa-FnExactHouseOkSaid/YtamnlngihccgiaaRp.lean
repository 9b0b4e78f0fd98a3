/- Regions whose order is drawn: what the run yields along a plan, the abstract machine does in every order that may come. -/
import Derived.Test.YtamnlngihccgiaaRe
namespace Go.Proofs.Ytamnlngihccgiaa.AM
set_option linter.all false
open Go
set_option linter.constructorNameAsVariable false
set_option linter.unusedSimpArgs false
section
variable {P : Program} {O : Orac} {m m0 : Mp} {H Hs : Hp} {H1 H1s : AH} {H0 : AH} {In : Nat → Prop} {fr : Fr2} {fr1 : Fr}

theorem force_eq {A : Type} (x : Tr) (K : Bool → V → Hp → A) : force x K = K x.1 x.2.1 x.2.2 := by
  obtain ⟨ok, v, H⟩ := x
  cases v <;> rfl
theorem memN_iff {x : Nat} : ∀ {l : List Nat}, memN x l = true ↔ x ∈ l
  | [] => by simp [memN]
  | y :: r => by
    simp only [memN, Bool.or_eq_true, List.mem_cons, memN_iff]
    constructor
    · rintro (h | h)
      · exact .inl (Nat.eq_of_beq_eq_true h)
      · exact .inr h
    · rintro (h | h)
      · exact .inl (by rw [h]; exact Nat.beq_refl y)
      · exact .inr h
theorem beq_ff {a b : Nat} (h : a ≠ b) : Nat.beq a b = false := by
  cases e : Nat.beq a b with
  | false => rfl
  | true => exact absurd (Nat.eq_of_beq_eq_true e) h
theorem get_setO2 {d : Option Nat} {v : V} {t : Nat} : (fr.setO d v).get t = if d = some t then v else fr.get t := by
  cases d with
  | none => simp [Fr2.setO]
  | some d =>
    simp only [Fr2.setO, Fr2.get, Option.some.injEq]
    by_cases h : d = t
    · subst h; simp
    · rw [beq_ff h, if_neg h]; rfl
theorem get_dim2 {t : Nat} : ∀ {l : List Nat}, (fr.dim l).get t = if t ∈ l then .u else fr.get t
  | [] => by simp [Fr2.dim]
  | d :: r => by
    simp only [Fr2.dim, Fr2.get, List.mem_cons]
    by_cases h : d = t
    · subst h; simp
    · rw [beq_ff h]
      simp only [cond_false, get_dim2 (l := r), Ne.symm h, false_or]

/-! ### Chains -/
theorem eqChain_eq : ∀ {a b : Chain}, eqChain a b = true → a = b
  | [], [], _ => rfl
  | (t, w) :: r, (t', w') :: r', h => by
    simp only [eqChain, Bool.and_eq_true, beq_iff_eq] at h
    rw [Nat.eq_of_beq_eq_true h.1, h.2.1, eqChain_eq h.2.2]
  | [], _ :: _, h => by simp [eqChain] at h
  | _ :: _, [], h => by simp [eqChain] at h
theorem actC_cons {t : Nat} {w : Bool} {r : Chain} : actC fr ((t, w) :: r) = (actC fr r && lit fr t w) := by
  cases r with
  | nil => simp [actC]
  | cons x r => simp only [actC]
theorem sufx_act : ∀ {ch c : Chain}, sufx c ch = true → actC fr ch = true → actC fr c = true
  | [], c, h, _ => by
    simp only [sufx] at h
    rw [eqChain_eq h]; rfl
  | x :: r, c, h, ha => by
    simp only [sufx, Bool.or_eq_true] at h
    rcases h with h | h
    · rw [eqChain_eq h]; exact ha
    · obtain ⟨t, w⟩ := x
      rw [actC_cons, Bool.and_eq_true] at ha
      exact sufx_act h ha.1
theorem lit_set {d : Option Nat} {v : V} {t : Nat} {w : Bool} (h : d ≠ some t) : lit (fr.setO d v) t w = lit fr t w := by
  simp only [lit, get_setO2, if_neg h]
theorem actC_set {d : Option Nat} {v : V} : ∀ {c : Chain}, (∀ k, d = some k → inChain k c = false) → actC (fr.setO d v) c = actC fr c
  | [], _ => rfl
  | (t, w) :: r, h => by
    rw [actC_cons, actC_cons, actC_set (fun k hk => by
      have := h k hk
      simp only [inChain, Bool.or_eq_false_iff] at this
      exact this.2), lit_set fun e => by
      have := h t e
      simp [inChain] at this]
theorem freshD_chain {d : Nat} : ∀ {A : List (Nat × Chain)}, freshD d A = true → ∀ t, inChain d (chainOf A t) = false
  | [], _, t => rfl
  | (k, c) :: r, h, t => by
    simp only [freshD, Bool.and_eq_true, Bool.not_eq_true'] at h
    simp only [chainOf]
    cases Nat.beq k t with
    | true => exact h.1.2
    | false => exact freshD_chain h.2 t
theorem freshD_key {d : Nat} : ∀ {A : List (Nat × Chain)}, freshD d A = true → chainOf A d = []
  | [], _ => rfl
  | (k, c) :: r, h => by
    simp only [freshD, Bool.and_eq_true, Bool.not_eq_true'] at h
    simp only [chainOf, h.1.1]
    exact freshD_key h.2
theorem chain_key {t : Nat} : ∀ {A : List (Nat × Chain)}, t ∉ keysN A → chainOf A t = []
  | [], _ => rfl
  | (k, c) :: r, h => by
    simp only [keysN, List.mem_cons, not_or] at h
    simp only [chainOf, beq_ff (Ne.symm h.1)]
    exact chain_key h.2

/-- What is told of slots that are asked for. -/
def FrA (m : Mp) (A : List (Nat × Chain)) (g fr : Fr2) (fr1 : Fr) : Prop := ∀ t, actC g (chainOf A t) = true → EV m (fr.get t) (fr1 t)
/-- Those that are not have nothing. -/
def FrB (A : List (Nat × Chain)) (g : Fr2) (fr1 : Fr) : Prop := ∀ t, actC g (chainOf A t) = false → fr1 t = .t []
def idle (A : List (Nat × Chain)) (g : Fr2) : List Nat := (keysN A).filter fun d => !actC g (chainOf A d)
theorem FrA.eff {A : List (Nat × Chain)} {g : Fr2} (h : FrA m A g fr fr1) : FrE m (fr.dim (idle A g)) fr1 := fun t => by
  rw [get_dim2]
  split
  · simp only [EV]
  · rename_i hn
    refine h t ?_
    by_cases hk : t ∈ keysN A
    · simp only [idle, List.mem_filter, not_and, Bool.not_eq_true', Bool.not_eq_false] at hn
      simpa using hn hk
    · rw [chain_key hk]; rfl
theorem FrA.mono {m' : Mp} (hm : m.Le m') {A : List (Nat × Chain)} {g : Fr2} (h : FrA m A g fr fr1) : FrA m' A g fr fr1 := fun t ht => EV.mono hm _ _ (h t ht)

/-! ### What an operation reads -/
theorem ev_congr {fr' : Fr2} {x : Od} (h : ∀ t ∈ odR x, fr.get t = fr'.get t) : fr.ev x = fr'.ev x := by
  cases x with
  | t k => exact h k (by simp [odR])
  | c v => rfl
theorem evs_congr {fr' : Fr2} : ∀ {xs : List Od}, (∀ t ∈ odsR xs, fr.get t = fr'.get t) → evs fr xs = evs fr' xs
  | [], _ => rfl
  | x :: r, h => by
    simp only [evs]
    rw [ev_congr fun t ht => h t (by simp [odsR, ht]), evs_congr fun t ht => h t (by simp [odsR, ht])]
theorem bnd2_congr {fr' : Fr2} {o : Option Od} {d : Int} (h : ∀ t ∈ odoR o, fr.get t = fr'.get t) : bnd2 fr o d = bnd2 fr' o d := by
  cases o with
  | none => rfl
  | some x => simp only [bnd2]; rw [ev_congr h]
theorem fill2_congr {fr' : Fr2} : ∀ {ps : List (Nat × Nat × Od)} {z : List V}, (∀ t ∈ partsR ps, fr.get t = fr'.get t) → fill2 fr z ps = fill2 fr' z ps
  | [], _, _ => rfl
  | (off, sz, x) :: r, z, h => by
    simp only [fill2]
    rw [ev_congr fun t ht => h t (by simp [partsR, ht]), fill2_congr fun t ht => h t (by simp [partsR, ht])]
theorem fillOk_congr {fr' : Fr2} {n : Nat} : ∀ {ps : List (Nat × Nat × Od)}, (∀ t ∈ partsR ps, fr.get t = fr'.get t) → fillOk fr n ps = fillOk fr' n ps
  | [], _ => rfl
  | (off, sz, x) :: r, h => by
    simp only [fillOk]
    rw [ev_congr fun t ht => h t (by simp [partsR, ht]), fillOk_congr fun t ht => h t (by simp [partsR, ht])]
theorem rop_congr {fr' : Fr2} {τ : Option GT} {o : AOp} (h : ∀ t ∈ rdsO o, fr.get t = fr'.get t) : rop O τ o fr H = rop O τ o fr' H := by
  cases o <;> simp only [rdsO, List.mem_append] at h <;> simp only [rop]
  case mov x => rw [ev_congr h]
  case pick c x y => rw [ev_congr fun t ht => h t (.inl ht), ev_congr fun t ht => h t (.inr (.inl ht)), ev_congr fun t ht => h t (.inr (.inr ht))]
  case bin op x y => rw [ev_congr fun t ht => h t (.inl ht), ev_congr fun t ht => h t (.inr ht)]
  case beq n x y => rw [ev_congr fun t ht => h t (.inl ht), ev_congr fun t ht => h t (.inr ht)]
  case eqs n ty x y => rw [ev_congr fun t ht => h t (.inl ht), ev_congr fun t ht => h t (.inr ht)]
  case eqn kd n x => rw [ev_congr h]
  case un op x => rw [ev_congr h]
  case conv k x => rw [ev_congr h]
  case bts x => rw [ev_congr h]
  case fld a b c x => rw [ev_congr h]
  case ext i x => rw [ev_congr h]
  case nilc x => rw [ev_congr h]
  case fad o x => rw [ev_congr h]
  case iad k x y => rw [ev_congr fun t ht => h t (.inl ht), ev_congr fun t ht => h t (.inr ht)]
  case idx x y => rw [ev_congr fun t ht => h t (.inl ht), ev_congr fun t ht => h t (.inr ht)]
  case sls k x lo hi =>
    have hx : fr.ev x = fr'.ev x := ev_congr fun t ht => h t (.inl ht)
    have hlo : ∀ d, bnd2 fr lo d = bnd2 fr' lo d := fun d => bnd2_congr fun t ht => h t (.inr (.inl ht))
    have hhi : ∀ d, bnd2 fr hi d = bnd2 fr' hi d := fun d => bnd2_congr fun t ht => h t (.inr (.inr ht))
    simp only [hx, hlo, hhi]
  case sst x lo hi =>
    have hx : fr.ev x = fr'.ev x := ev_congr fun t ht => h t (.inl ht)
    have hlo : ∀ d, bnd2 fr lo d = bnd2 fr' lo d := fun d => bnd2_congr fun t ht => h t (.inr (.inl ht))
    have hhi : ∀ d, bnd2 fr hi d = bnd2 fr' hi d := fun d => bnd2_congr fun t ht => h t (.inr (.inr ht))
    simp only [hx, hlo, hhi]
  case load a b x => rw [ev_congr h]
  case stor s x v =>
    have hx : fr.ev x = fr'.ev x := ev_congr fun t ht => h t (.inl ht)
    have hv : fr.ev v = fr'.ev v := ev_congr fun t ht => h t (.inr ht)
    simp only [hx, hv]
  case box v => simp only [ev_congr h]
  case bld z ps => rw [fill2_congr h, fillOk_congr h]
  case bsl k rows => simp only [evs_congr h]
  case mks b z l => rw [ev_congr h]
  case mkf g cap => rw [evs_congr h]
  case call f args => rw [ev_congr fun t ht => h t (.inl ht), evs_congr fun t ht => h t (.inr ht)]
  case callm f args => rw [ev_congr fun t ht => h t (.inl ht), evs_congr fun t ht => h t (.inr ht)]
  case app b k x y => rw [ev_congr fun t ht => h t (.inl ht), ev_congr fun t ht => h t (.inr ht)]
  case len s x => rw [ev_congr h]
  case mm mx xs => rw [evs_congr h]
  case mif t x => rw [ev_congr h]
theorem readsOk_iff {A : List (Nat × Chain)} {ch : Chain} : ∀ {l : List Nat}, readsOk A ch l = true → ∀ t ∈ l, sufx (chainOf A t) ch = true
  | [], _, t, ht => by simp at ht
  | x :: r, h, t, ht => by
    simp only [readsOk, Bool.and_eq_true] at h
    rcases List.mem_cons.1 ht with rfl | ht
    · exact h.1
    · exact readsOk_iff h.2 t ht
theorem rop_eff {τ : Option GT} {o : AOp} {A : List (Nat × Chain)} {g : Fr2} {ch : Chain} (hr : readsOk A ch (rdsO o) = true) (ha : actC g ch = true) : rop O τ o (fr.dim (idle A g)) H = rop O τ o fr H := by
  refine rop_congr fun t ht => ?_
  rw [get_dim2, if_neg]
  intro hm
  simp only [idle, List.mem_filter, Bool.not_eq_true'] at hm
  rw [sufx_act (readsOk_iff hr t ht) ha] at hm
  exact absurd hm.2 (by simp)

/-! ### Rights -/
/-- The blocks that an operation of the abstract machine reads and writes are ones that it may. -/
def RdOk (rd : Nat → Prop) (fr1 : Fr) : AOp → Prop
  | .load _ _ x => match fr1.ev x with
    | .p id _ _ => rd id
    | .pq .. => rd 0
    | _ => True
  | .bts _ => False
  | _ => True
def WrOk (pw : Nat → Prop) (fr1 : Fr) : AOp → Prop
  | .stor _ x _ => match fr1.ev x with
    | .p id _ _ => pw id
    | _ => True
  | .app _ _ x _ => match fr1.ev x with
    | .l id _ _ => id = 0 ∨ pw id
    | _ => True
  | .callm .. | .cpy .. | .apps .. => False
  | _ => True
theorem aop_rd {rd : Nat → Prop} {o : AOp} (hq : o.quiet = true) (hr : RdOk rd fr1 o) {K : AV → AH → Prop} (h : aop (env P) (fun _ => True) (fun _ => True) o fr1 H1 K) : aop (env P) (fun _ => False) rd o fr1 H1 K := by
  cases o <;> simp only [AOp.quiet, Bool.false_eq_true] at hq
  case load sz ag x =>
    simp only [aop] at h ⊢
    simp only [RdOk] at hr
    split at h
    · rename_i id i j hx
      rw [hx] at hr
      exact ⟨hr, h.2⟩
    · rename_i r j hx
      rw [hx] at hr
      exact ⟨hr, h.2⟩
    · exact h
  case bts x => exact hr.elim
  all_goals exact h
theorem aop_wr {pw : Nat → Prop} {o : AOp} (hw : WrOk pw fr1 o) {K : AV → AH → Prop} (h : aop (env P) (fun _ => True) (fun _ => True) o fr1 H1 K) : aop (env P) pw (fun _ => True) o fr1 H1 K := by
  cases o
  case stor sz x v =>
    simp only [aop] at h ⊢
    simp only [WrOk] at hw
    split at h
    · rename_i id i j hx
      rw [hx] at hw
      exact ⟨hw, h.2⟩
    · exact h
  case app b k x y =>
    simp only [aop] at h ⊢
    simp only [WrOk] at hw
    split at h
    · rename_i id i n id' i' n' hx hy
      rw [hx] at hw
      split at h
      · exact ⟨h.1, h.2.1, h.2.2.1, h.2.2.2.1, h.2.2.2.2.1, h.2.2.2.2.2.1, hw, h.2.2.2.2.2.2.2⟩
      · exact h
    · rename_i id i n rows hx hy
      rw [hx] at hw
      split at h
      · exact ⟨h.1, h.2.1, h.2.2.1, h.2.2.2.1, h.2.2.2.2.1, hw, h.2.2.2.2.2.2⟩
      · exact h
    · exact h
  case callm => exact hw.elim
  case cpy => exact hw.elim
  case apps => exact hw.elim
  all_goals exact h

/-! ### Guards -/
/-- What a guard says, said of the run. -/
theorem guard_cases {A : List (Nat × Chain)} {g : Option (Nat × Bool)} (hA : FrA m A fr fr fr1) (hB : FrB A fr fr1) (hg : gOk fr g = true) :
    (actC fr (gChain A g) = true ∧ ((g = none) ∨ ∃ t w, g = some (t, w) ∧ fr1 t = .b w)) ∨
    (actC fr (gChain A g) = false ∧ ∃ t w, g = some (t, w) ∧ (fr1 t = .t [] ∨ ∃ c, fr1 t = .b c ∧ c ≠ w)) := by
  cases g with
  | none => exact .inl ⟨rfl, .inl rfl⟩
  | some tw =>
    obtain ⟨t, w⟩ := tw
    simp only [gChain, actC_cons]
    cases ha : actC fr (chainOf A t) with
    | false => exact .inr ⟨rfl, t, w, rfl, .inl (hB t ha)⟩
    | true =>
      have he := hA t ha
      simp only [gOk] at hg
      split at hg
      case h_2 => cases hg
      rename_i c hc
      rw [hc] at he
      simp only [EV] at he
      have hl : lit fr t w = decide (c = w) := by
        simp only [lit, hc]
        cases c <;> cases w <;> rfl
      rw [hl]
      by_cases hcw : c = w
      · subst hcw
        exact .inl ⟨by simp, .inr ⟨t, c, rfl, he⟩⟩
      · exact .inr ⟨by simp [hcw], t, w, rfl, .inr ⟨c, he, hcw⟩⟩
theorem ago_do {pw rd : Nat → Prop} {x : AO} {K : Fr → AH → Prop} (hg : x.g = none ∨ ∃ t w, x.g = some (t, w) ∧ fr1 t = .b w) (h : aop (env P) pw rd x.o fr1 H1 fun v H' => K (fr1.setO x.d v) H') : ago (env P) pw rd x fr1 H1 K := by
  unfold ago
  rcases hg with hg | ⟨t, w, hg, hf⟩
  · rw [hg]; exact h
  · rw [hg]
    simp only [Fr.get, hf, if_true]; exact h
theorem ago_skip {pw rd : Nat → Prop} {x : AO} {K : Fr → AH → Prop} {t : Nat} {w : Bool} (hg : x.g = some (t, w)) (hf : fr1 t = .t [] ∨ ∃ c, fr1 t = .b c ∧ c ≠ w) (h : K (fr1.setO x.d (.t [])) H1) : ago (env P) pw rd x fr1 H1 K := by
  unfold ago
  rw [hg]
  rcases hf with hf | ⟨c, hf, hc⟩
  · simp only [Fr.get, hf]; exact h
  · simp only [Fr.get, hf, if_neg hc]; exact h
theorem agg_do {rd : Nat → Prop} {x : AO} {gd : Fr} {K : AV → Prop} (hg : x.g = none ∨ ∃ t w, x.g = some (t, w) ∧ fr1 t = .b w) (h : aop (env P) (fun _ => False) rd x.o gd H1s fun v _ => K v) : agg (env P) rd x gd H1s fr1 K := by
  unfold agg
  rcases hg with hg | ⟨t, w, hg, hf⟩
  · rw [hg]; exact h
  · rw [hg]
    simp only [Fr.get, hf, if_true]; exact h
theorem agg_skip {rd : Nat → Prop} {x : AO} {gd : Fr} {K : AV → Prop} {t : Nat} {w : Bool} (hg : x.g = some (t, w)) (hf : fr1 t = .t [] ∨ ∃ c, fr1 t = .b c ∧ c ≠ w) (h : K (.t [])) : agg (env P) rd x gd H1s fr1 K := by
  unfold agg
  rw [hg]
  rcases hf with hf | ⟨c, hf, hc⟩
  · simp only [Fr.get, hf]; exact h
  · simp only [Fr.get, hf, if_neg hc]; exact h

/-! ### One step more -/
theorem dstFresh_iff {d : Option Nat} {ch : Chain} {A : List (Nat × Chain)} (h : dstFresh d ch A = true) : ∀ k, d = some k → inChain k ch = false ∧ freshD k A = true := by
  intro k hk
  subst hk
  simp only [dstFresh, Bool.and_eq_true, Bool.not_eq_true'] at h
  exact h
theorem chain_add {d : Option Nat} {ch : Chain} {A : List (Nat × Chain)} (h : dstFresh d ch A = true) (t : Nat) : chainOf (addA d ch A) t = if d = some t then ch else chainOf A t := by
  cases d with
  | none => simp [addA]
  | some k =>
    have hf := dstFresh_iff h k rfl
    cases ch with
    | nil =>
      simp only [addA, Option.some.injEq]
      split
      · rename_i e; subst e; exact freshD_key hf.2
      · rfl
    | cons c r =>
      simp only [addA, chainOf, Option.some.injEq]
      by_cases e : k = t
      · subst e; simp
      · rw [beq_ff e, if_neg e]; rfl
theorem act_add {d : Option Nat} {ch : Chain} {A : List (Nat × Chain)} (h : dstFresh d ch A = true) {v : V} (t : Nat) : actC (fr.setO d v) (chainOf (addA d ch A) t) = if d = some t then actC fr ch else actC fr (chainOf A t) := by
  rw [chain_add h]
  split
  · exact actC_set fun k hk => (dstFresh_iff h k hk).1
  · exact actC_set fun k hk => freshD_chain (dstFresh_iff h k hk).2 t
/-- The operation was carried out. -/
theorem FrA.step {A : List (Nat × Chain)} {g : Fr2} (h : FrA m A g fr fr1) {d : Option Nat} {ch : Chain} (hd : dstFresh d ch A = true) {v u : V} {a : AV} (hv : actC g ch = true → EV m v a) : FrA m (addA d ch A) (g.setO d u) (fr.setO d v) (fr1.setO d a) := by
  intro t ht
  rw [act_add hd] at ht
  rw [get_setO2]
  by_cases e : d = some t
  · rw [if_pos e] at ht ⊢
    subst e
    simp only [Fr.setO, Fr.set, if_true]
    exact hv ht
  · rw [if_neg e] at ht ⊢
    have : fr1.setO d a t = fr1 t := by
      cases d with
      | none => rfl
      | some k => simp only [Fr.setO, Fr.set]; rw [if_neg (fun e2 => e (by rw [e2]))]
    rw [this]; exact h t ht
theorem FrB.step {A : List (Nat × Chain)} (h : FrB A fr fr1) {d : Option Nat} {ch : Chain} (hd : dstFresh d ch A = true) {u : V} {a : AV} (hv : actC fr ch = false → a = .t []) : FrB (addA d ch A) (fr.setO d u) (fr1.setO d a) := by
  intro t ht
  rw [act_add hd] at ht
  by_cases e : d = some t
  · rw [if_pos e] at ht
    subst e
    simp only [Fr.setO, Fr.set, if_true]
    exact hv ht
  · rw [if_neg e] at ht
    have : fr1.setO d a t = fr1 t := by
      cases d with
      | none => rfl
      | some k => simp only [Fr.setO, Fr.set]; rw [if_neg (fun e2 => e (by rw [e2]))]
    rw [this]; exact h t ht

def QAfter (H0 : AH) (In : Nat → Prop) (m : Mp) (fr' : Fr2) (H' : Hp) (fr1' : Fr) (H1' : AH) : Prop :=
  ∃ m', m.Le m' ∧ EH m' H' H1' ∧ EX H0 In m' H1' ∧ FrE m' fr' fr1'
def Img (m0 : Mp) (j : Nat) : Prop := ∃ id, id < m0.nx ∧ m0.φ id = j
theorem EX.trans (h0 : EX H0 In m0 H1s) (hE : EH m0 Hs H1s) (h : EX H1s (Img m0) m H1) (hn : H1.m 0 = some nilBlk) (hm : m0.Le m) : EX H0 In m H1 := by
  refine ⟨Nat.le_trans h0.nx h.nx, ?_, ?_⟩
  · intro j hj hi
    by_cases hj0 : j = 0
    · subst hj0
      have := h0.out 0 hj hi
      rw [hE.nil] at this
      rw [hn]; exact this
    · rw [h.out j (Nat.lt_of_lt_of_le hj h0.nx) ?_]
      · exact h0.out j hj hi
      · rintro ⟨id, h1, h2⟩
        rcases h0.new id h1 with h3 | h3 | h3
        · omega
        · exact hi (h2 ▸ h3)
        · exact hj0 (h2 ▸ h3)
  · intro id hid
    rcases h.new id hid with h1 | ⟨id', h1, h2⟩ | h1
    · exact .inl (Nat.le_trans h0.nx h1)
    · rw [← h2]; exact h0.new id' h1
    · exact .inr (.inr h1)

theorem apartN_iff : ∀ {rs ws : List Nat}, apartN rs ws = true → ∀ id ∈ rs, id ∉ ws
  | [], _, _, id, h => by simp at h
  | x :: r, ws, h, id, hid => by
    simp only [apartN, Bool.and_eq_true, Bool.not_eq_true'] at h
    rcases List.mem_cons.1 hid with rfl | hid
    · intro hm
      rw [memN_iff.2 hm] at h
      cases h.1
    · exact apartN_iff h.2 id hid
theorem aliveAll_iff : ∀ {l : List Nat}, aliveAll Hs l = true → ∀ id ∈ l, Hs.get id ≠ .dead
  | [], _, id, h => by simp at h
  | x :: r, h, id, hid => by
    simp only [aliveAll, Bool.and_eq_true] at h
    rcases List.mem_cons.1 hid with rfl | hid
    · intro e
      rw [e] at h
      cases h.1
    · exact aliveAll_iff h.2 id hid
/-- The blocks that are written. -/
def wdOf (m0 : Mp) (ws : List Nat) : List Nat := (ws.filter fun id => decide (id < m0.nx)).map m0.φ
theorem wd_mem {ws : List Nat} {j : Nat} : j ∈ wdOf m0 ws ↔ ∃ id ∈ ws, id < m0.nx ∧ m0.φ id = j := by
  simp only [wdOf, List.mem_map, List.mem_filter, decide_eq_true_eq]
  constructor
  · rintro ⟨id, ⟨h1, h2⟩, h3⟩; exact ⟨id, h1, h2, h3⟩
  · rintro ⟨id, h1, h2, h3⟩; exact ⟨id, ⟨h1, h2⟩, h3⟩
theorem notWd (hE : EH m0 Hs H1s) {ws : List Nat} {id : Nat} (hid : id < m0.nx) (hn : id ∉ ws) (hz : m0.φ id ≠ 0) : m0.φ id ∉ wdOf m0 ws := by
  rw [wd_mem]
  rintro ⟨id', h1, h2, h3⟩
  rcases hE.inj id' id h2 hid h3 with e | e
  · exact hn (e ▸ h1)
  · exact hz (h3 ▸ e)
theorem okAct_true {ok : Bool} {ch : Chain} (h : okAct fr ok ch = true) (ha : actC fr ch = true) : ok = true := by
  cases ch with
  | nil => exact h
  | cons c r =>
    simp only [okAct, ha, Bool.not_true, Bool.or_false] at h
    exact h

theorem OrcOk.calm (hO : OrcOk P O) : OrcOk P O.calm := ⟨hO.ct, hO.eq, hO.mo, hO.mt⟩
theorem OrcOk.at (hO : OrcOk P O) (ch : Chain) : OrcOk P (orcAt O ch) := by
  cases ch with
  | nil => exact hO
  | cons c r => exact hO.calm
theorem calm_all (O : Orac) : ∀ g, O.calm.isP g = true := fun _ => rfl
theorem quiet_calm {o : AOp} (h : o.quiet = true) : calmO o = true := by
  cases o <;> simp only [AOp.quiet, Bool.false_eq_true] at h <;> rfl
theorem EX.self : EX H1s (Img m0) m0 H1s := ⟨Nat.le_refl _, fun _ _ _ => rfl, fun id hid => .inr (.inl ⟨id, hid, rfl⟩)⟩

theorem load_rd {τ : Option GT} {sz : Nat} {ag : Bool} {x : Od} {v : V} {H' : Hp} (hr : rop O τ (.load sz ag x) fr H = (true, v, H')) : (∃ id i j, fr.ev x = .p id i j ∧ H.get id ≠ .dead) ∨ ∃ T r j, fr.ev x = .pq T r j := by
  simp only [rop, Tr.bad] at hr
  cases hx : fr.ev x with
  | p id i j =>
    rw [hx] at hr
    refine .inl ⟨id, i, j, rfl, fun e => ?_⟩
    simp only [e, Prod.mk.injEq, Bool.false_eq_true, false_and] at hr
  | pq T r j => exact .inr ⟨T, r, j, rfl⟩
  | _ => rw [hx] at hr; simp at hr
theorem stor_wr {τ : Option GT} {sz : Nat} {x y : Od} {v : V} {H' : Hp} (hr : rop O τ (.stor sz x y) fr H = (true, v, H')) : ∃ id i j, fr.ev x = .p id i j ∧ H.get id ≠ .dead := by
  simp only [rop, Tr.bad] at hr
  cases hx : fr.ev x with
  | p id i j =>
    rw [hx] at hr
    refine ⟨id, i, j, rfl, fun e => ?_⟩
    simp only [e, Prod.mk.injEq, Bool.false_eq_true, false_and] at hr
  | _ => rw [hx] at hr; simp at hr
theorem app_wr {τ : Option GT} {b k : Nat} {x y : Od} {v : V} {H' : Hp} (hr : rop O τ (.app b k x y) fr H = (true, v, H')) : ∃ id, idOf (fr.ev x) = some id := by
  simp only [rop, Tr.bad] at hr
  cases hx : idOf (fr.ev x) with
  | none => rw [hx] at hr; simp at hr
  | some id => exact ⟨id, rfl⟩

/-- A place in a block that is there is in the abstract machine's. -/
theorem ptr_ne (h : EH m H H1) {id i j : Nat} {a : AV} (he : EV m (.p id i j) a) (hd : H.get id ≠ .dead) : a = .p (m.φ id) i j ∧ m.φ id ≠ 0 ∧ id < m.nx := by
  simp only [EV] at he
  refine ⟨he.2, fun e => ?_, he.1.1⟩
  have := h.ln0 hd e
  omega
theorem isSome_blk (h : EH m0 Hs H1s) {id : Nat} (hd : Hs.get id ≠ .dead) : (H1s.get (m0.φ id)).isSome = true := by
  obtain ⟨_, B, a2, _⟩ := h.blk id hd
  rw [AH.get, a2]; rfl
theorem pw_of (h0 : EH m0 Hs H1s) (h : EH m H H1) (hX : EX H1s (Img m0) m H1) (hm : m0.Le m) {ws : List Nat} {id : Nat} (hid : id < m.nx) (hw : id ∈ ws) (hz : m.φ id ≠ 0) : m.φ id ∈ wdOf m0 ws ∨ H1s.get (m.φ id) = none := by
  rcases Nat.lt_or_ge id m0.nx with hlt | hge
  · left
    rw [hm.φ id hlt]
    exact wd_mem.2 ⟨id, hw, hlt, rfl⟩
  · right
    rcases hX.new id hid with h1 | ⟨id', h1, h2⟩ | h1
    · exact H1s.ok _ h1
    · exfalso
      have e : m.φ id' = m.φ id := (hm.φ id' h1).trans h2
      rcases h.inj id' id (Nat.lt_of_lt_of_le h1 hm.nx) hid e with e2 | e2
      · omega
      · exact hz (e ▸ e2)
    · exact absurd h1 hz

theorem rplan_run (τ : Nat → Option GT) {α : Type} {x : α} (O : Orac) (xs : List AO) (gs : List Nat) (Hs : Hp) (K : Fr2 → Hp → List Bool → Option α) :
    ∀ (p : Plan) (gfr fr : Fr2) (A : List (Nat × Chain)) (H : Hp) (oks : List Bool) (rs ws : List Nat), rplan τ O xs gs Hs p gfr fr A H oks rs ws K = some x →
    ∃ (fr' : Fr2) (A' : List (Nat × Chain)) (H' : Hp) (l : List Bool) (rs' ws' : List Nat), apartN rs' ws' = true ∧ K (fr'.dim (keysN A')) H' (l ++ oks) = some x ∧ (∀ id ∈ rs, id ∈ rs') ∧ (∀ id ∈ ws, id ∈ ws') ∧
      (OrcOk P O → ∀ (m0 : Mp) (H1s : AH), EH m0 Hs H1s → (∀ ok ∈ l, ok = true) → ∀ (m : Mp) (gd1 fr1 : Fr) (H1 : AH), m0.Le m → EH m H H1 → EX H1s (Img m0) m H1 → FrA m0 A fr gfr gd1 → FrA m A fr fr fr1 → FrB A fr fr1 →
        aplan (env P) (wdOf m0 ws') H1s xs p gd1 fr1 H1 (QAfter H1s (Img m0) m (fr'.dim (keysN A')) H'))
  | .done, gfr, fr, A, H, oks, rs, ws, h => by
    simp only [rplan] at h
    cases ha : apartN rs ws with
    | false => rw [ha] at h; cases h
    | true =>
      rw [ha] at h
      refine ⟨fr, A, H, [], rs, ws, ha, h, fun _ h => h, fun _ h => h, fun hO m0 H1s hE hl m gd1 fr1 H1 hm hH hX hG hA hB => ?_⟩
      simp only [aplan]
      refine ⟨m, Mp.Le.refl m, hH, hX, fun t => ?_⟩
      rw [get_dim2]
      split
      · simp only [EV]
      · rename_i hk
        exact hA t (by rw [chain_key hk]; rfl)
  | .take i p, gfr, fr, A, H, oks, rs, ws, h => by
    simp only [rplan] at h
    split at h
    case h_1 => cases h
    rename_i o hxs
    generalize hch : gChain A o.g = ch at h
    cases hcond : (dstFresh o.d ch A && (gOk fr o.g && (o.o.quiet && notBts o.o))) with
    | false => rw [hcond] at h; cases h
    | true =>
      rw [hcond] at h
      simp only [cond_true] at h
      simp only [Bool.and_eq_true] at hcond
      obtain ⟨hdf, hgo, hq, hnb⟩ := hcond
      split at h
      · -- a tree's end
        rename_i t y w hpick
        cases hc2 : (sufx (chainOf A t) ch && eqChain (chainOf A y) ((t, w) :: chainOf A t)) with
        | false => rw [hc2] at h; cases h
        | true =>
          rw [hc2] at h
          simp only [cond_true] at h
          simp only [Bool.and_eq_true] at hc2
          obtain ⟨hs1, hs2⟩ := hc2
          have hs2 := eqChain_eq hs2
          split at h
          case h_2 => cases h
          rename_i c r hct hcy
          obtain ⟨fr', A', H', l, rs', ws', a1, a2, a3, a4, a5⟩ := rplan_run τ O xs gs Hs K p _ _ _ _ _ _ _ h
          refine ⟨fr', A', H', l, rs', ws', a1, a2, a3, a4, fun hO m0 H1s hE hl m gd1 fr1 H1 hm hH hX hG hA hB => ?_⟩
          simp only [aplan, hxs]
          right
          rcases guard_cases hA hB hgo with ⟨hact, hg⟩ | ⟨hact, t', w', hg, hf⟩
          · rw [hch] at hact
            have hta := sufx_act hs1 hact
            have ht1 := hA t hta
            rw [hct] at ht1
            simp only [EV] at ht1
            have hy1 : c = w → fr1 y = .b r := fun e => by
              have := hA y (by rw [hs2, actC_cons, hta, lit, hct]; subst e; cases c <;> rfl)
              rw [hcy] at this
              simpa only [EV] using this
            have hgo2 : ∀ K' : AV → AH → Prop, K' (.b (bif w then c && r else c || r)) H1 → aop (env P) (fun _ => False) (rdq (wdOf m0 ws') H1s) o.o fr1 H1 K' := fun K' hK' => by
              unfold pickOf at hpick
              split at hpick
              · rename_i t2 x2 ho
                simp only [Option.some.injEq, Prod.mk.injEq] at hpick
                obtain ⟨rfl, rfl, rfl⟩ := hpick
                rw [ho]
                simp only [aop, Fr.ev, Fr.get, ht1]
                cases c
                · simpa using hK'
                · simp only [hy1 rfl]; simpa using hK'
              · rename_i t2 x2 ho
                simp only [Option.some.injEq, Prod.mk.injEq] at hpick
                obtain ⟨rfl, rfl, rfl⟩ := hpick
                rw [ho]
                simp only [aop, Fr.ev, Fr.get, ht1]
                cases c
                · simp only [hy1 rfl]; simpa using hK'
                · simpa using hK'
              · cases hpick
            refine ago_do hg (hgo2 _ ?_)
            refine a5 hO m0 H1s hE hl m _ _ H1 hm hH hX (hG.step hdf fun _ => by simp only [EV]) (hA.step hdf fun _ => by simp only [EV]) (hB.step hdf fun e => ?_)
            rw [hact] at e; cases e
          · rw [hch] at hact
            refine ago_skip hg hf ?_
            refine a5 hO m0 H1s hE hl m _ _ H1 hm hH hX (hG.step hdf fun _ => by simp only [EV]) (hA.step hdf fun e => ?_) (hB.step hdf fun _ => rfl)
            rw [hact] at e; cases e
      · -- an operation
        cases hro : readsOk A ch (rdsO o.o) with
        | false => rw [hro] at h; cases h
        | true =>
          rw [hro] at h
          simp only [cond_true] at h
          have hcal := quiet_calm hq
          cases hgood : memN i gs with
          | true =>
            rw [hgood] at h
            simp only [cond_true, force_eq] at h
            obtain ⟨fr', A', H', l, rs', ws', a1, a2, a3, a4, a5⟩ := rplan_run τ O xs gs Hs K p _ _ _ _ _ _ _ h
            refine ⟨fr', A', H', l ++ [okAct fr (rop O.calm (τat τ o.d) o.o gfr Hs).1 ch], rs', ws', a1, by simpa using a2, fun id hid => a3 id ?_, a4, fun hO m0 H1s hE hl m gd1 fr1 H1 hm hH hX hG hA hB => ?_⟩
            · cases rdIds gfr o.o with
              | none => exact hid
              | some l2 => exact List.mem_append_right _ hid
            · have hok := hl _ (List.mem_append_right _ (List.mem_singleton_self _))
              have hl' : ∀ ok ∈ l, ok = true := fun ok h => hl ok (List.mem_append_left _ h)
              simp only [aplan, hxs]
              left
              rcases guard_cases hA hB hgo with ⟨hact, hg⟩ | ⟨hact, t', w', hg, hf⟩
              · rw [hch] at hact
                have hok1 := okAct_true hok hact
                have hr : rop O.calm (τat τ o.d) o.o gfr Hs = (true, (rop O.calm (τat τ o.d) o.o gfr Hs).2.1, (rop O.calm (τat τ o.d) o.o gfr Hs).2.2) := Prod.ext hok1 rfl
                rw [← rop_eff (g := fr) hro hact] at hr
                refine agg_do hg (aop_rd hq ?_ (rop_sound hO.calm hE EX.self hG.eff hr (fun e a ha => ?_) fun hn => ?_))
                · cases ho : o.o <;> try trivial
                  · rename_i xx
                    rw [ho] at hnb
                    cases hnb
                  · rename_i sz ag xx
                    rw [ho] at hr
                    have e1 := ev_ev hE hG.eff xx
                    simp only [RdOk]
                    rcases load_rd hr with ⟨id, ii, jj, hx, hal⟩ | ⟨T, r, jj, hx⟩
                    · rw [hx] at e1
                      obtain ⟨e2, e3, e4⟩ := ptr_ne hE e1 hal
                      rw [e2]
                      refine .inr ⟨notWd hE e4 ?_ e3, isSome_blk hE hal⟩
                      refine apartN_iff a1 id (a3 id ?_)
                      have hx2 : gfr.ev xx = .p id ii jj := by
                        rw [← hx]
                        refine (ev_congr fun t ht => ?_).symm
                        rw [get_dim2, if_neg]
                        intro hm2
                        simp only [idle, List.mem_filter, Bool.not_eq_true'] at hm2
                        rw [ho] at hro
                        rw [sufx_act (readsOk_iff hro t (by simpa [rdsO] using ht)) hact] at hm2
                        exact absurd hm2.2 (by simp)
                      rw [ho]
                      simp only [rdIds, hx2, addIds]
                      simp
                    · rw [hx] at e1
                      simp only [EV] at e1
                      rw [e1]
                      exact .inl rfl
                · refine a5 hO m0 H1s hE hl' m _ _ H1 hm hH hX (hG.step hdf fun _ => ?_) (hA.step hdf fun _ => EV.mono hm _ _ ?_) (hB.step hdf fun e => ?_)
                  · rw [rop_eff (g := fr) hro hact] at ha; exact ha
                  · rw [rop_eff (g := fr) hro hact] at ha; exact ha
                  · rw [hact] at e; cases e
                · obtain ⟨g, hg2⟩ := hn hcal
                  rw [calm_all O g] at hg2; cases hg2
              · rw [hch] at hact
                refine agg_skip hg hf ?_
                refine a5 hO m0 H1s hE hl' m _ _ H1 hm hH hX (hG.step hdf fun e => ?_) (hA.step hdf fun e => ?_) (hB.step hdf fun _ => rfl)
                · rw [hact] at e; cases e
                · rw [hact] at e; cases e
          | false =>
            rw [hgood] at h
            simp only [cond_false] at h
            split at h
            case h_2 => cases h
            rename_i l0 hrd
            cases hali : aliveAll Hs l0 with
            | false => rw [hali] at h; cases h
            | true =>
              rw [hali] at h
              simp only [cond_true, force_eq] at h
              obtain ⟨fr', A', H', l, rs', ws', a1, a2, a3, a4, a5⟩ := rplan_run τ O xs gs Hs K p _ _ _ _ _ _ _ h
              refine ⟨fr', A', H', l ++ [okAct fr (rop O.calm (τat τ o.d) o.o fr H).1 ch], rs', ws', a1, by simpa using a2, fun id hid => a3 id (List.mem_append_right _ hid), a4, fun hO m0 H1s hE hl m gd1 fr1 H1 hm hH hX hG hA hB => ?_⟩
              have hok := hl _ (List.mem_append_right _ (List.mem_singleton_self _))
              have hl' : ∀ ok ∈ l, ok = true := fun ok h => hl ok (List.mem_append_left _ h)
              simp only [aplan, hxs]
              right
              rcases guard_cases hA hB hgo with ⟨hact, hg⟩ | ⟨hact, t', w', hg, hf⟩
              · rw [hch] at hact
                have hok1 := okAct_true hok hact
                have hr : rop O.calm (τat τ o.d) o.o fr H = (true, (rop O.calm (τat τ o.d) o.o fr H).2.1, (rop O.calm (τat τ o.d) o.o fr H).2.2) := Prod.ext hok1 rfl
                rw [← rop_eff (g := fr) hro hact] at hr
                refine ago_do hg (aop_rd hq ?_ (rop_sound hO.calm hH hX hA.eff hr (fun e a ha => ?_) fun hn => ?_))
                · cases ho : o.o <;> try trivial
                  · rename_i xx
                    rw [ho] at hnb
                    cases hnb
                  · rename_i sz ag xx
                    rw [ho] at hr
                    have e1 := ev_ev hH hA.eff xx
                    simp only [RdOk]
                    have hxe : fr.ev xx = (fr.dim (idle A fr)).ev xx := by
                      refine ev_congr fun t ht => ?_
                      rw [get_dim2, if_neg]
                      intro hm2
                      simp only [idle, List.mem_filter, Bool.not_eq_true'] at hm2
                      rw [ho] at hro
                      rw [sufx_act (readsOk_iff hro t (by simpa [rdsO] using ht)) hact] at hm2
                      exact absurd hm2.2 (by simp)
                    rw [ho] at hrd
                    simp only [rdIds] at hrd
                    rcases load_rd hr with ⟨id, ii, jj, hx, hal⟩ | ⟨T, r, jj, hx⟩
                    · rw [hx] at e1
                      obtain ⟨e2, e3, e4⟩ := ptr_ne hH e1 hal
                      rw [e2]
                      rw [hxe, hx] at hrd
                      simp only [Option.some.injEq] at hrd
                      subst hrd
                      have hal0 := aliveAll_iff hali id (by simp)
                      have hlt := (hE.blk id hal0).1
                      rw [hm.φ id hlt] at e3 ⊢
                      exact ⟨e3, notWd hE hlt (apartN_iff a1 id (a3 id (by simp))) e3, isSome_blk hE hal0⟩
                    · rw [hxe, hx] at hrd
                      cases hrd
                · refine a5 hO m0 H1s hE hl' m _ _ H1 hm hH hX (hG.step hdf fun _ => by simp only [EV]) (hA.step hdf fun _ => ?_) (hB.step hdf fun e => ?_)
                  · rw [rop_eff (g := fr) hro hact] at ha; exact ha
                  · rw [hact] at e; cases e
                · obtain ⟨g, hg2⟩ := hn hcal
                  rw [calm_all O g] at hg2; cases hg2
              · rw [hch] at hact
                refine ago_skip hg hf ?_
                refine a5 hO m0 H1s hE hl' m _ _ H1 hm hH hX (hG.step hdf fun _ => by simp only [EV]) (hA.step hdf fun e => ?_) (hB.step hdf fun _ => rfl)
                rw [hact] at e; cases e
  | .all ps, gfr, fr, A, H, oks, rs, ws, h => by
    match ps, h with
    | [], h => simp [rplan] at h
    | _ :: _ :: _, h => simp [rplan] at h
    | [(i, p)], h =>
      simp only [rplan] at h
      split at h
      case h_1 => cases h
      rename_i o hxs
      generalize hch : gChain A o.g = ch at h
      cases hcond : ((dstFresh o.d ch A && (gOk fr o.g && (readsOk A ch (rdsO o.o) && !isCallm o.o))) && calmAt o.o ch) with
      | false => rw [hcond] at h; cases h
      | true =>
        rw [hcond] at h
        simp only [cond_true, force_eq] at h
        simp only [Bool.and_eq_true, Bool.not_eq_true'] at hcond
        obtain ⟨⟨hdf, hgo, hro, hncm⟩, hcal⟩ := hcond
        obtain ⟨fr', A', H', l, rs', ws', a1, a2, a3, a4, a5⟩ := rplan_run τ O xs gs Hs K p _ _ _ _ _ _ _ h
        refine ⟨fr', A', H', l ++ [okAct fr (rop (orcAt O ch) (τat τ o.d) o.o fr H).1 ch], rs', ws', a1, by simpa using a2, a3, fun id hid => a4 id (List.mem_append_right _ hid), fun hO m0 H1s hE hl m gd1 fr1 H1 hm hH hX hG hA hB => ?_⟩
        have hok := hl _ (List.mem_append_right _ (List.mem_singleton_self _))
        have hl' : ∀ ok ∈ l, ok = true := fun ok h => hl ok (List.mem_append_left _ h)
        simp only [aplan, aplans, hxs, and_true]
        rcases guard_cases hA hB hgo with ⟨hact, hg⟩ | ⟨hact, t', w', hg, hf⟩
        · rw [hch] at hact
          have hok1 := okAct_true hok hact
          have hr : rop (orcAt O ch) (τat τ o.d) o.o fr H = (true, (rop (orcAt O ch) (τat τ o.d) o.o fr H).2.1, (rop (orcAt O ch) (τat τ o.d) o.o fr H).2.2) := Prod.ext hok1 rfl
          rw [← rop_eff (g := fr) hro hact] at hr
          have hxe : ∀ xx, (∀ t ∈ odR xx, t ∈ rdsO o.o) → fr.ev xx = (fr.dim (idle A fr)).ev xx := fun xx hsub => by
            refine ev_congr fun t ht => ?_
            rw [get_dim2, if_neg]
            intro hm2
            simp only [idle, List.mem_filter, Bool.not_eq_true'] at hm2
            rw [sufx_act (readsOk_iff hro t (hsub t ht)) hact] at hm2
            exact absurd hm2.2 (by simp)
          have next : ∀ (m' : Mp) (v1 : AV) (H1' : AH), m.Le m' → EV m' (rop (orcAt O ch) (τat τ o.d) o.o (fr.dim (idle A fr)) H).2.1 v1 → EH m' (rop (orcAt O ch) (τat τ o.d) o.o (fr.dim (idle A fr)) H).2.2 H1' → EX H1s (Img m0) m' H1' →
              aplan (env P) (wdOf m0 ws') H1s xs p (gd1.setO o.d .u) (fr1.setO o.d v1) H1' (QAfter H1s (Img m0) m (fr'.dim (keysN A')) H') := fun m' v1 H1' q1 q2 q3 q4 => by
            rw [rop_eff (g := fr) hro hact] at q2 q3
            refine aplan_mono p _ _ _ _ _ (fun fr2 H2 ⟨m2, p1, p2, p3, p4⟩ => ⟨m2, q1.trans p1, p2, p3, p4⟩) (a5 hO m0 H1s hE hl' m' _ _ H1' (hm.trans q1) q3 q4 (hG.step hdf fun _ => by simp only [EV]) ((hA.mono q1).step hdf fun _ => q2) (hB.step hdf fun e => ?_))
            rw [hact] at e; cases e
          rw [rop_eff (g := fr) hro hact] at hr
          rw [← rop_eff (g := fr) hro hact] at hr
          refine ago_do hg (aop_wr ?_ (rop_sound (hO.at ch) hH hX hA.eff hr (fun e a ha => next m a H1 (Mp.Le.refl m) ?_ ?_ hX) fun _ m' v1 H1' q1 q2 q3 q4 => next m' v1 H1' q1 ?_ ?_ q4))
          · cases ho : o.o <;> try trivial
            · rename_i sz xx yy
              rw [ho] at hr
              have e1 := ev_ev hH hA.eff xx
              obtain ⟨id, ii, jj, hx, hal⟩ := stor_wr hr
              rw [hx] at e1
              obtain ⟨e2, e3, e4⟩ := ptr_ne hH e1 hal
              simp only [WrOk, e2]
              refine pw_of hE hH hX hm e4 (a4 id ?_) e3
              rw [ho]
              simp only [wrIds]
              rw [hxe xx (fun t ht => by rw [ho]; simp [rdsO, ht]), hx]
              simp
            · rw [ho] at hncm
              cases hncm
            · rename_i bb kk xx yy
              rw [ho] at hr
              have e1 := ev_ev hH hA.eff xx
              obtain ⟨id, hx⟩ := app_wr hr
              obtain ⟨ii, nn, e2, e4⟩ := idOf_ev hx e1
              simp only [WrOk, e2]
              by_cases hz : m.φ id = 0
              · exact .inl hz
              · refine .inr (pw_of hE hH hX hm e4 (a4 id ?_) hz)
                rw [ho]
                simp only [wrIds]
                rw [hxe xx (fun t ht => by rw [ho]; simp [rdsO, ht]), hx]
                simp
            · rw [ho] at hr
              simp [rop, Tr.bad] at hr
            · rw [ho] at hr
              simp [rop, Tr.bad] at hr
          · exact ha
          · rw [e]; exact hH
          · exact q2
          · exact q3
        · rw [hch] at hact
          have hHH : (rop (orcAt O ch) (τat τ o.d) o.o fr H).2.2 = H := by
            cases ch with
            | nil => cases hact
            | cons c r => exact rop_calm hcal (calm_all O)
          refine ago_skip hg hf ?_
          refine a5 hO m0 H1s hE hl' m _ _ H1 hm (by rw [hHH]; exact hH) hX (hG.step hdf fun _ => by simp only [EV]) (hA.step hdf fun e => ?_) (hB.step hdf fun _ => rfl)
          rw [hact] at e; cases e

/-- A region along a plan. -/
theorem rplan_sound (hO : OrcOk P O) (τ : Nat → Option GT) {α : Type} {x : α} {xs : List AO} {gs : List Nat} {K : Fr2 → Hp → List Bool → Option α} {p : Plan} (h : rplan τ O xs gs H p fr fr [] H [] [] [] K = some x) :
    ∃ (fr' : Fr2) (H' : Hp) (l : List Bool), K fr' H' l = some x ∧ ((∀ ok ∈ l, ok = true) → ∀ (m : Mp) (fr1 : Fr) (H1 : AH), EH m H H1 → EX H0 In m H1 → FrE m fr fr1 → ∃ Wd, aplan (env P) Wd H1 xs p fr1 fr1 H1 (QAfter H0 In m fr' H')) := by
  obtain ⟨fr', A', H', l, rs', ws', a1, a2, a3, a4, a5⟩ := rplan_run (P := P) τ O xs gs H K p fr fr [] H [] [] [] h
  refine ⟨_, H', l, by simpa using a2, fun hl m fr1 H1 hH hX hf => ⟨wdOf m ws', ?_⟩⟩
  have := a5 hO m H1 hH hl m fr1 fr1 H1 (Mp.Le.refl m) hH EX.self (fun t _ => hf t) (fun t _ => hf t) (fun t ht => by simp [chainOf, actC] at ht)
  exact aplan_mono p _ _ _ _ _ (fun fr2 H2 ⟨m2, p1, p2, p3, p4⟩ => ⟨m2, p1, p2, hX.trans hH p3 p2.nil p1, p4⟩) this
end
end Go.Proofs.Ytamnlngihccgiaa.AM
