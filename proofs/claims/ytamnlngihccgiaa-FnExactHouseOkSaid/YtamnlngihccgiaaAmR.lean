/- Contracts of functions that are told by values alone: how they are come by, how they are used. -/
import Derived.Test.YtamnlngihccgiaaAmQ
namespace Go.Proofs.Ytamnlngihccgiaa.AM
set_option linter.all false
open Go

-- All block numbers in a value.
mutual
def AV.dom (p : Nat → Prop) : AV → Prop
  | .p id _ _ => p id
  | .l id _ _ => p id
  | .q rows => AV.domss p rows
  | .pq r _ => AV.doms p r
  | .a cs => AV.doms p cs
  | .t cs => AV.doms p cs
  | .f _ cap => AV.doms p cap
  | .e _ x => AV.dom p x
  | .b _ | .n .. | .s _ | .pn | .en | .u => True
def AV.doms (p : Nat → Prop) : List AV → Prop
  | [] => True
  | c :: cs => AV.dom p c ∧ AV.doms p cs
def AV.domss (p : Nat → Prop) : List (List AV) → Prop
  | [] => True
  | c :: cs => AV.doms p c ∧ AV.domss p cs
end

section
variable {P : Program} {ρ ρ' ρ3 : Ren}
mutual
theorem VR.dom : ∀ (v : AV) (cv : Value), VR ρ v cv → v.dom (fun id => ∃ x, ρ id = some x)
  | .p id i j, cv, h => by simp only [VR] at h; obtain ⟨l, hl, _⟩ := h; simp only [AV.dom]; exact ⟨_, hl⟩
  | .l id i n, cv, h => by
    simp only [VR] at h
    simp only [AV.dom]
    replace h := h.1
    cases e : ρ id with
    | none => rw [e] at h; exact h.elim
    | some x => exact ⟨x, rfl⟩
  | .q rows, cv, h => by simp only [VR] at h; obtain ⟨vss, h, _⟩ := h; simp only [AV.dom]; exact VRss.dom rows vss h
  | .pq r j, cv, h => by simp only [VR] at h; obtain ⟨vs, _, _, h, _⟩ := h; simp only [AV.dom]; exact VRs.dom r vs h
  | .a cs, cv, h => by simp only [VR] at h; obtain ⟨vs, _, h⟩ := h; simp only [AV.dom]; exact VRs.dom cs vs h
  | .t cs, cv, h => by simp only [VR] at h; obtain ⟨vs, _, h⟩ := h; simp only [AV.dom]; exact VRs.dom cs vs h
  | .f g cap, cv, h => by simp only [VR] at h; obtain ⟨vs, _, h⟩ := h; simp only [AV.dom]; exact VRs.dom cap vs h
  | .e ty x, cv, h => by simp only [VR] at h; obtain ⟨y, _, h⟩ := h; simp only [AV.dom]; exact VR.dom x y h
  | .b _, _, _ | .n .., _, _ | .s _, _, _ | .pn, _, _ | .en, _, _ | .u, _, _ => by simp only [AV.dom]
theorem VRs.dom : ∀ (vs : List AV) (cvs : List Value), VRs ρ vs cvs → AV.doms (fun id => ∃ x, ρ id = some x) vs
  | [], _, _ => by simp only [AV.doms]
  | v :: vs, cvs, h => by
    simp only [VRs] at h
    obtain ⟨cv, r, _, h1, h2⟩ := h
    simp only [AV.doms]
    exact ⟨VR.dom v cv h1, VRs.dom vs r h2⟩
theorem VRss.dom : ∀ (vs : List (List AV)) (cvs : List (List Value)), VRss ρ vs cvs → AV.domss (fun id => ∃ x, ρ id = some x) vs
  | [], _, _ => by simp only [AV.domss]
  | v :: vs, cvs, h => by
    simp only [VRss] at h
    obtain ⟨cv, r, _, h1, h2⟩ := h
    simp only [AV.domss]
    exact ⟨VRs.dom v cv h1, VRss.dom vs r h2⟩
end

mutual
theorem VR.cut {p : Nat → Prop} (hp : ∀ id, p id → ρ3 id = ρ' id) (hc : ∀ b o v, ρ'.con b o = some v → ρ3.con b o = some v) : ∀ (v : AV) (cv : Value), v.dom p → VR ρ' v cv → VR ρ3 v cv
  | .p id i j, cv, hd, h => by simp only [VR, AV.dom] at hd h ⊢; rw [hp id hd]; exact h
  | .l id i n, cv, hd, h => by simp only [VR, AV.dom] at hd h ⊢; rw [hp id hd]; exact h
  | .q rows, cv, hd, h => by
    simp only [VR, AV.dom] at hd h ⊢
    obtain ⟨vss, h1, h2⟩ := h
    refine ⟨vss, VRss.cut hp hc rows vss hd h1, ?_⟩
    rcases h2 with h2 | ⟨b, off, k, cap, a1, a2, a3, a4⟩
    · exact .inl h2
    · exact .inr ⟨b, off, k, cap, a1, a2, a3, fun i r hr => ⟨(a4 i r hr).1, fun j cv hj => hc _ _ _ ((a4 i r hr).2 j cv hj)⟩⟩
  | .pq r j, cv, hd, h => by
    simp only [VR, AV.dom] at hd h ⊢
    obtain ⟨vs, b, o, h1, e, h2⟩ := h
    exact ⟨vs, b, o, VRs.cut hp hc r vs hd h1, e, fun i cv hi => hc _ _ _ (h2 i cv hi)⟩
  | .a cs, cv, hd, h => by
    simp only [VR, AV.dom] at hd h ⊢
    obtain ⟨vs, e, h⟩ := h
    exact ⟨vs, e, VRs.cut hp hc cs vs hd h⟩
  | .t cs, cv, hd, h => by
    simp only [VR, AV.dom] at hd h ⊢
    obtain ⟨vs, e, h⟩ := h
    exact ⟨vs, e, VRs.cut hp hc cs vs hd h⟩
  | .f g cap, cv, hd, h => by
    simp only [VR, AV.dom] at hd h ⊢
    obtain ⟨vs, e, h⟩ := h
    exact ⟨vs, e, VRs.cut hp hc cap vs hd h⟩
  | .e ty x, cv, hd, h => by
    simp only [VR, AV.dom] at hd h ⊢
    obtain ⟨y, e, h⟩ := h
    exact ⟨y, e, VR.cut hp hc x y hd h⟩
  | .b _, _, _, h | .n .., _, _, h | .s _, _, _, h | .pn, _, _, h | .en, _, _, h | .u, _, _, h => by simpa only [VR] using h
theorem VRs.cut {p : Nat → Prop} (hp : ∀ id, p id → ρ3 id = ρ' id) (hc : ∀ b o v, ρ'.con b o = some v → ρ3.con b o = some v) : ∀ (vs : List AV) (cvs : List Value), AV.doms p vs → VRs ρ' vs cvs → VRs ρ3 vs cvs
  | [], _, _, h => by simpa only [VRs] using h
  | v :: vs, cvs, hd, h => by
    simp only [VRs, AV.doms] at hd h ⊢
    obtain ⟨cv, r, e, h1, h2⟩ := h
    exact ⟨cv, r, e, VR.cut hp hc v cv hd.1 h1, VRs.cut hp hc vs r hd.2 h2⟩
theorem VRss.cut {p : Nat → Prop} (hp : ∀ id, p id → ρ3 id = ρ' id) (hc : ∀ b o v, ρ'.con b o = some v → ρ3.con b o = some v) : ∀ (vs : List (List AV)) (cvs : List (List Value)), AV.domss p vs → VRss ρ' vs cvs → VRss ρ3 vs cvs
  | [], _, _, h => by simpa only [VRss] using h
  | v :: vs, cvs, hd, h => by
    simp only [VRss, AV.domss] at hd h ⊢
    obtain ⟨cv, r, e, h1, h2⟩ := h
    exact ⟨cv, r, e, VRs.cut hp hc v cv hd.1 h1, VRss.cut hp hc vs r hd.2 h2⟩
end

/-- The old blocks are as they were. -/
def AH.Old (H H' : AH) : Prop := H.nx ≤ H'.nx ∧ ∀ j, j < H.nx → H'.m j = H.m j

/-- What a function leaves behind and nobody can reach is left out. -/
theorem Ct.tidy {f : FuncId} {args : List AV} {H : AH} {R : AV → AH → Prop}
    (h : Ct P f args H fun r H' => H.Old H' ∧ ∃ d, PV H' (fun id => H.nx ≤ id ∧ ownP H' id) d r ∧ d.dom (· < H.nx) ∧ R d H) : Ct P f args H R := by
  intro ρ w cargs hR ha
  refine (h ρ w cargs hR ha).mono ?_
  rintro e w' ⟨v, ρ', r, H', rfl, ⟨⟨hnx, hold⟩, d, hpv, hdom, hRd⟩, hv, hR', hre⟩
  have hv2 := VR.view hR' _ _ _ hpv hv
  obtain ⟨ρ3, hρ3⟩ : ∃ ρ3 : Ren, ρ3 = ⟨fun id => if id < H.nx then ρ' id else none, (ρ'.snap (fun id => H.nx ≤ id ∧ ownP H' id) H' w').con⟩ := ⟨_, rfl⟩
  have hlt : ∀ id, id < H.nx → ρ3 id = ρ' id := fun id h => by rw [hρ3]; simp [h]
  have hin : ∀ id x, ρ id = some x → id < H.nx := fun id x h => by
    rcases Nat.lt_or_ge id H.nx with h' | h'
    · exact h'
    · rw [(hR.fresh id h').1] at h; cases h
  have hcon : ∀ b o v, ρ'.con b o = some v → ρ3.con b o = some v := fun b o v h => by rw [hρ3]; exact (Ren.snap_le _).c b o v h
  have hle : ρ.Le ρ3 := ⟨fun id x h => by rw [hlt id (hin id x h)]; exact hre.ren.l id x h, fun b o v h => hcon b o v (hre.ren.c b o v h)⟩
  have hback : ∀ id l, ρ3 id = some (some l) → id < H.nx ∧ ρ' id = some (some l) := fun id l h => by
    rcases Nat.lt_or_ge id H.nx with h' | h'
    · exact ⟨h', by rw [← hlt id h']; exact h⟩
    · rw [hρ3] at h; simp [Nat.not_lt.2 h'] at h
  have hsn : ∀ b o v, ρ3.con b o = some v → (ρ'.snap (fun id => H.nx ≤ id ∧ ownP H' id) H' w').con b o = some v := fun b o v h => by rw [hρ3] at h; exact h
  refine ⟨v, ρ3, d, H, rfl, hRd, ?_, ⟨?_, ?_, ?_, ?_, ?_, ?_, ?_⟩, ⟨hle, Nat.le_refl _, hre.size, ?_, ?_, fun _ _ h _ => h, ?_, hre.env⟩⟩
  · exact VR.cut (ρ' := ρ'.snap (fun id => H.nx ≤ id ∧ ownP H' id) H' w') (p := (· < H.nx)) (fun id h => hlt id h) (fun b o v h => by rw [hρ3]; exact h) _ _ hdom hv2
  · intro id hid
    exact ⟨by rw [hρ3]; simp [Nat.not_lt.2 hid], H.ok id hid⟩
  · exact ⟨hR.nil.1, hle.l _ _ hR.nil.2⟩
  · intro id B hB
    have hid : id < H.nx := by
      rcases Nat.lt_or_ge id H.nx with h | h
      · exact h
      · rw [H.ok id h] at hB; cases hB
    obtain ⟨x, hx, hok⟩ := hR'.blk id B (by rw [hold id hid]; exact hB)
    obtain ⟨y, hy, hoky⟩ := hR.blk id B hB
    have hxy : x = y := by
      have := hre.ren.l id y hy
      rw [hx] at this
      exact Option.some.inj this
    subst hxy
    refine ⟨x, by rw [hlt id hid]; exact hx, ?_⟩
    cases x with
    | none => exact hok
    | some l =>
      simp only at hok hoky ⊢
      refine ⟨hok.k, hok.len, hok.cap, hok.wid, fun i r hr j v hv => ?_, hok.wr, hok.fit⟩
      obtain ⟨cv, c1, c2⟩ := hok.cel i r hr j v hv
      obtain ⟨cv0, _, c4⟩ := hoky.cel i r hr j v hv
      have hd := VR.dom _ _ c4
      exact ⟨cv, c1, VR.cut (p := fun id => ∃ x, ρ id = some x) (fun id ⟨x, h⟩ => hlt id (hin id x h)) hcon _ _ hd c2⟩
  · intro id id' B B' l l' h1 h2 h3 h4 h5 h6
    obtain ⟨a1, h3⟩ := hback _ _ h3
    obtain ⟨a2, h4⟩ := hback _ _ h4
    exact hR'.sep id id' B B' l l' (by rw [hold id a1]; exact h1) (by rw [hold id' a2]; exact h2) h3 h4 h5 h6
  · intro id l h
    exact hR'.fit id l (hback _ _ h).2
  · intro b o v h
    rcases Ren.snap_con (hsn b o v h) with hb | ⟨⟨id, B, l, _, hB, hl, rfl⟩, hc⟩
    · exact hR'.con b o v hb
    · exact ⟨hc, hR'.fit id l hl⟩
  · intro id B l h1 h2 h3 o
    obtain ⟨a1, h2⟩ := hback _ _ h2
    have hB' : H'.m id = some B := by rw [hold id a1]; exact h1
    cases e : ρ3.con l.b o with
    | none => rfl
    | some v =>
      rcases Ren.snap_con (hsn _ _ _ e) with hb | ⟨⟨id', B', l', ⟨hS, _⟩, hB2, hl', heq⟩, _⟩
      · rw [hR'.conOwn id B l hB' h2 h3 o] at hb; cases hb
      · exact absurd heq.symm (hR'.sep id id' B B' l l' hB' hB2 h2 hl' h3 (by omega))
  · exact hre.keep
  · intro id B l h1 h2 h3
    obtain ⟨a1, h3⟩ := hback _ _ h3
    obtain ⟨x, hx, _⟩ := hR.blk id B h1
    have := hre.ren.l id x hx
    rw [h3] at this
    exact .inr ⟨id, l, ⟨B, h1, h2⟩, .inl rfl, by rw [hx, ← this], rfl⟩
  · intro b o v h
    rcases Ren.snap_con (hsn b o v h) with hb | ⟨⟨id, B, l, ⟨_, hoo⟩, hB, hl, e⟩, _⟩
    · exact hre.con b o v hb
    · obtain ⟨B0, hB0, ho0⟩ := hoo
      rcases hre.own id B0 l hB0 ho0 hl with h | ⟨id0, l0, q1, _, q3, q4⟩
      · exact .inr (.inl (by omega))
      · exact .inr (.inr ⟨id0, l0, q1, q1, q3, q4.trans e⟩)

/-! ### Contracts of pure functions -/
/-- The function, called with these arguments, returns d and leaves all that can be reached as it was. -/
def Pf (P : Program) (f : FuncId) (args : List AV) (d : AV) : Prop := okFn P f = true ∧ ∀ H, Ct P f args H fun r H' => r = d ∧ H' = H

theorem back_lock (H : AH) : H.back [] (H.lock []) = H := by
  refine AH.ext' (fun j => ?_) rfl
  simp only [AH.back, AH.lock]
  rcases Nat.lt_or_ge j H.nx with h1 | h1
  · by_cases h2 : j = 0
    · subst h2; simp
    · simp [h1, h2]
  · rw [H.ok j h1]; simp

/-- A call of a pure function. -/
theorem call_pf {pw rd : Nat → Prop} {f : Od} {as : List Od} {fr : Fr} {H : AH} {K : AV → AH → Prop} {g : FuncId} {cap : List AV} {d : AV} (hf : fr.ev f = .f g cap)
    (hp : Pf P g (as.map fr.ev ++ cap) d) (h : K d H) : aop (env P) pw rd (.call f as) fr H K := by
  simp only [aop, hf]
  refine ⟨hp.1, (hp.2 (H.lock [])).mono fun r H' ⟨e1, e2⟩ => ?_⟩
  subst e1; subst e2
  rw [back_lock]; exact h

/-- What a pure function's body must come to. -/
def Post (H : AH) (d : AV) (r : AV) (H' : AH) : Prop := H.Old H' ∧ PV H' (fun id => H.nx ≤ id ∧ ownP H' id) d r ∧ d.dom (· < H.nx)

theorem Pf.of_afn (hm : P.follows .mixedOrders = true) {f : FuncId} {fn : Func} (hf : P.funcs[f]? = some fn) (hok : okFn P f = true) {A : AFn} (hc : checkFn P fn A = true) {args : List AV} {d : AV}
    (h : ∀ H : AH, 0 < H.nx → afn (env P) A args H (Post H d)) : Pf P f args d :=
  ⟨hok, fun H ρ w cargs hR ha => Ct.tidy (R := fun r H' => r = d ∧ H' = H) ((Ct.of_afn hm hf hc (h H hR.nx_pos)).mono fun _ _ ⟨h1, h2, h3⟩ => ⟨h1, d, h2, h3, rfl, rfl⟩) ρ w cargs hR ha⟩

/-- Values without numbers and slices. -/
def AV.scal : AV → Bool
  | .b _ | .n .. | .s _ | .pn | .en => true
  | _ => false

theorem VR.scal {d : AV} (hd : d.scal = true) {v : Value} (h : VR ρ d v) : VR ρ' d v := by
  cases d <;> simp only [AV.scal, Bool.false_eq_true] at hd <;> simpa only [VR] using h

/-- A pure function that returns a scalar may be called with slices that can still be written. -/
theorem Ct.borrow {f : FuncId} {args ds : List AV} {H : AH} {S : Nat → Prop} {d : AV} (hd : d.scal = true) (hp : PVs H S ds args) (h : Ct P f ds H fun r H' => r = d ∧ H' = H)
    (ho : ∀ id B, H.m id = some B → B.own = true → id = 0) : Ct P f args H fun r H' => r = d ∧ H' = H := by
  intro ρ w cargs hR ha
  have hle : ρ.Le (ρ.snap S H w) := Ren.snap_le _
  have hR1 : Rel (ρ.snap S H w) H w := by
    refine ⟨hR.fresh, hR.nil, fun id B hB => ?_, hR.sep, hR.fit, ?_, ?_⟩
    · obtain ⟨x, hx, hok⟩ := hR.blk id B hB
      refine ⟨x, hx, ?_⟩
      cases x with
      | none => exact hok
      | some l => exact BlkOk.mono hok hle rfl (Nat.le_refl _)
    · intro b o v hb
      rcases Ren.snap_con hb with hb | ⟨⟨id, B, l, _, hB, hl, rfl⟩, hc⟩
      · exact hR.con b o v hb
      · exact ⟨hc, hR.fit id l hl⟩
    · intro id B l h1 h2 h3
      rw [ho id B h1 h3] at h2
      rw [show (ρ.snap S H w) 0 = ρ 0 from rfl, hR.nil.2] at h2; cases h2
  refine (h _ w cargs hR1 (VRs.view hR _ _ _ hp ha)).mono ?_
  rintro e w' ⟨v, ρ', r, H', rfl, ⟨rfl, rfl⟩, hv, hR', hre⟩
  have hheap : ∀ b, b < w.heap.size → w'.heap[b]? = w.heap[b]? := fun b hb => hre.keep b hb fun id l ⟨B, hB, hoB⟩ hl => by
    rw [ho id B hB hoB] at hl
    rw [show (ρ.snap S H' w) 0 = ρ 0 from rfl, hR.nil.2] at hl; cases hl
  refine ⟨v, ρ, r, H', rfl, ⟨rfl, rfl⟩, VR.scal hd hv, ⟨hR.fresh, hR.nil, fun id B hB => ?_, hR.sep, fun id l hl => Nat.lt_of_lt_of_le (hR.fit id l hl) hre.size, ?_, hR.conOwn⟩, ⟨Ren.Le.refl _, Nat.le_refl _, hre.size, fun b hb _ => hheap b hb, ?_, fun _ _ h _ => h, fun _ _ _ h => .inl h, hre.env⟩⟩
  · obtain ⟨x, hx, hok⟩ := hR.blk id B hB
    refine ⟨x, hx, ?_⟩
    cases x with
    | none => exact hok
    | some l => exact BlkOk.mono hok (Ren.Le.refl _) (hheap _ hok.fit) hre.size
  · intro b o v hb
    obtain ⟨h1, h2⟩ := hR.con b o v hb
    exact ⟨by rw [cell?_same (hheap b h2)]; exact h1, Nat.lt_of_lt_of_le h2 hre.size⟩
  · exact fun id B l h1 h2 h3 => .inr ⟨id, l, ⟨B, h1, h2⟩, .inl rfl, h3, rfl⟩
end
end Go.Proofs.Ytamnlngihccgiaa.AM
