/- Calls: what a callee may not write is as it was. -/
import Derived.Test.YtamnlngihccgiaaAmJ
namespace Go.Proofs.Ytamnlngihccgiaa.AM
set_option linter.all false
open Go
section
variable {P : Program} {nt : Nat} {ρ : Ren} {fr : Fr} {a : Act} {H : AH} {w : World} {o : Oper} {K : AV → AH → Prop} {pw rd : Nat → Prop}

theorem lock_get {M : List Nat} {j : Nat} {B' : Blk} (h : (H.lock M).m j = some B') : ∃ B, H.m j = some B ∧ B'.k = B.k ∧ B'.rows = B.rows ∧ (B'.own = true → B.own = true ∧ (j = 0 ∨ j ∈ M)) ∧ ((j = 0 ∨ j ∈ M) → B' = B) := by
  simp only [AH.lock] at h
  split at h
  · rename_i hj
    exact ⟨B', h, rfl, rfl, fun ho => ⟨ho, hj⟩, fun _ => rfl⟩
  · rename_i hj
    simp only [Option.map_eq_some_iff] at h
    obtain ⟨B, hB, rfl⟩ := h
    exact ⟨B, hB, rfl, rfl, fun ho => by simp at ho, fun hj' => absurd hj' hj⟩

theorem Rel.lock (hR : Rel ρ H w) (M : List Nat) : Rel ρ (H.lock M) w where
  fresh := fun id hid => by
    have h1 := hR.fresh id hid
    refine ⟨h1.1, ?_⟩
    simp only [AH.lock]
    split
    · exact h1.2
    · rw [h1.2]; rfl
  nil := ⟨by simp only [AH.lock, true_or, if_true]; exact hR.nil.1, hR.nil.2⟩
  blk := fun id B' h => by
    obtain ⟨B, hB, hk, hrows, ho, _⟩ := lock_get h
    obtain ⟨x, hx, hm⟩ := hR.blk id B hB
    refine ⟨x, hx, ?_⟩
    cases x with
    | none => simp only at hm ⊢; rw [hrows]; exact hm
    | some l =>
      simp only at hm ⊢
      exact ⟨hm.k.trans hk.symm, by rw [hrows]; exact hm.len, hm.cap, by rw [hrows, hk]; exact hm.wid, by rw [hrows]; exact hm.cel, fun h => hm.wr (ho h).1, hm.fit⟩
  sep := fun id id' B B' l l' h1 h2 h3 h4 h5 h6 => by
    obtain ⟨C, hC, _, _, ho, _⟩ := lock_get h1
    obtain ⟨C', hC', _⟩ := lock_get h2
    exact hR.sep id id' C C' l l' hC hC' h3 h4 (ho h5).1 h6
  fit := hR.fit
  con := hR.con
  conOwn := fun id B l h1 h2 h3 => by
    obtain ⟨C, hC, _, _, ho, _⟩ := lock_get h1
    exact hR.conOwn id C l hC h2 (ho h3).1

theorem ownP_lock {M : List Nat} {id : Nat} (h : ownP (H.lock M) id) : ownP H id ∧ (id = 0 ∨ id ∈ M) := by
  obtain ⟨B, hB, ho⟩ := h
  obtain ⟨C, hC, _, _, h1, _⟩ := lock_get hB
  exact ⟨⟨C, hC, (h1 ho).1⟩, (h1 ho).2⟩

theorem Rel.back (hR : Rel ρ H w) (M : List Nat) {ρ' : Ren} {H1 : AH} {w' : World} (hR1 : Rel ρ' H1 w') (hre : Reach (ownP (H.lock M)) ρ (H.lock M) w ρ' H1 w') :
    Rel ρ' (H.back M H1) w' ∧ Reach (fun id => id ∈ M ∧ ownP H id) ρ H w ρ' (H.back M H1) w' := by
  have hnx : H.nx ≤ H1.nx := hre.nx
  -- an old block that may not be written lies apart from all that may
  have apart : ∀ id B l, H.m id = some B → id ≠ 0 → id ∉ M → ρ id = some (some l) → ∀ id' l', ownP (H.lock M) id' → ρ id' = some (some l') → l'.b ≠ l.b := fun id B l hB h0 hM hl id' l' ho hl' => by
    obtain ⟨⟨C, hC, hoC⟩, h | h⟩ := ownP_lock ho
    · subst h; rw [hR.nil.2] at hl'; cases hl'
    · exact hR.sep id' id C B l' l hC hB hl' hl hoC (fun e => hM (e ▸ h))
  have hget : ∀ j B, (H.back M H1).m j = some B → (j < H.nx ∧ j ≠ 0 ∧ j ∉ M ∧ H.m j = some B) ∨ (¬ (j < H.nx ∧ j ≠ 0 ∧ j ∉ M) ∧ H1.m j = some B) := fun j B h => by
    simp only [AH.back] at h
    split at h
    · rename_i hj; exact .inl ⟨hj.1, hj.2.1, hj.2.2.1, h⟩
    · rename_i hj; exact .inr ⟨fun hj' => hj ⟨hj'.1, hj'.2.1, hj'.2.2, Nat.lt_of_lt_of_le hj'.1 hnx⟩, h⟩
  have hold : ∀ id l, id < H.nx → ρ' id = some (some l) → ∀ B, H.m id = some B → ρ id = some (some l) := fun id l _ hl B hB => by
    obtain ⟨x, hx, _⟩ := hR.blk id B hB
    have := hre.ren.l id x hx
    rw [hl] at this
    simp only [Option.some.injEq] at this
    rw [hx, ← this]
  -- where H1's own blocks lie
  have own1 : ∀ id B l, H1.m id = some B → B.own = true → ρ' id = some (some l) → ∀ id' B' l', H.m id' = some B' → id' ≠ 0 → id' ∉ M → ρ id' = some (some l') → l.b ≠ l'.b := fun id B l h1 h2 h3 id' B' l' h4 h5 h6 h7 => by
    rcases hre.own id B l h1 h2 h3 with h | ⟨id0, l0, ho, _, hl0, e⟩
    · have := hR.fit _ _ h7; omega
    · rw [← e]; exact apart id' B' l' h4 h5 h6 h7 id0 l0 ho hl0
  refine ⟨⟨?_, ?_, ?_, ?_, hR1.fit, hR1.con, ?_⟩, ⟨hre.ren, by simpa only [AH.back] using hnx, hre.size, ?_, ?_, ?_, ?_, hre.env⟩⟩
  · intro id hid
    simp only [AH.back] at hid ⊢
    rw [if_neg (by omega)]
    exact hR1.fresh id hid
  · refine ⟨?_, hR1.nil.2⟩
    simp only [AH.back]
    rw [if_neg (by omega)]
    exact hR1.nil.1
  · intro id B h
    rcases hget id B h with ⟨h1, h2, h3, h4⟩ | ⟨_, h4⟩
    · obtain ⟨x, hx, hm⟩ := hR.blk id B h4
      refine ⟨x, hre.ren.l _ _ hx, ?_⟩
      cases x with
      | none => exact hm
      | some l =>
        exact BlkOk.mono hm hre.ren (hre.keep _ hm.fit fun id' l' ho hl' => apart id B l h4 h2 h3 hx id' l' ho hl') hre.size
    · exact hR1.blk id B h4
  · intro id id' B B' l l' h1 h2 h3 h4 h5 h6
    rcases hget id B h1 with ⟨a1, a2, a3, a4⟩ | ⟨a1, a4⟩ <;> rcases hget id' B' h2 with ⟨b1, b2, b3, b4⟩ | ⟨b1, b4⟩
    · exact hR.sep id id' B B' l l' a4 b4 (hold _ _ a1 h3 _ a4) (hold _ _ b1 h4 _ b4) h5 h6
    · have hl := hold _ _ a1 h3 _ a4
      by_cases ho' : B'.own = true
      · exact (own1 id' B' l' b4 ho' h4 id B l a4 a2 a3 hl).symm
      · have hro := hre.ro id' B' b4 (by simpa using ho')
        obtain ⟨C, hC, _⟩ := lock_get hro
        have hid' : id' < H.nx := by
          rcases Nat.lt_or_ge id' H.nx with h | h
          · exact h
          · rw [(hR.fresh id' h).2] at hC; cases hC
        exact hR.sep id id' B C l l' a4 hC hl (hold _ _ hid' h4 _ hC) h5 h6
    · exact own1 id B l a4 h5 h3 id' B' l' b4 b2 b3 (hold _ _ b1 h4 _ b4)
    · exact hR1.sep id id' B B' l l' a4 b4 h3 h4 h5 h6
  · intro id B l h1 h2 h3 o
    rcases hget id B h1 with ⟨a1, a2, a3, a4⟩ | ⟨_, a4⟩
    · have hl := hold _ _ a1 h2 _ a4
      cases e : ρ'.con l.b o with
      | none => rfl
      | some v =>
        rcases hre.con _ _ _ e with h | h | ⟨id0, l0, ho, _, hl0, e0⟩
        · rw [hR.conOwn id B l a4 hl h3 o] at h; cases h
        · have := hR.fit _ _ hl; omega
        · exact absurd e0 (apart id B l a4 a2 a3 hl id0 l0 ho hl0)
    · exact hR1.conOwn id B l a4 h2 h3 o
  · intro b hb hno
    refine hre.keep b hb fun id l ho hl => ?_
    obtain ⟨h1, h | h⟩ := ownP_lock ho
    · subst h; rw [hR.nil.2] at hl; cases hl
    · exact hno id l ⟨h, h1⟩ hl
  · intro id B l h1 h2 h3
    rcases hget id B h1 with ⟨a1, a2, a3, a4⟩ | ⟨a1, a4⟩
    · exact .inr ⟨id, l, ⟨B, a4, h2⟩, .inl rfl, hold _ _ a1 h3 _ a4, rfl⟩
    · rcases hre.own id B l a4 h2 h3 with h | ⟨id0, l0, ho, _, hl0, e⟩
      · exact .inl h
      · have ho2 := ownP_lock ho
        rcases ho2.2 with h | h
        · subst h; rw [hR.nil.2] at hl0; cases hl0
        · exact .inr ⟨id0, l0, ho2.1, .inr ⟨h, ho2.1⟩, hl0, e⟩
  · intro id B h1 h2
    rcases hget id B h1 with ⟨a1, a2, a3, a4⟩ | ⟨a1, a4⟩
    · exact a4
    · have hro := hre.ro id B a4 h2
      obtain ⟨C, hC, _, _, _, heq⟩ := lock_get hro
      have hid : id < H.nx := by
        rcases Nat.lt_or_ge id H.nx with h | h
        · exact h
        · rw [(hR.fresh id h).2] at hC; cases hC
      rw [heq (by
        rcases Nat.eq_zero_or_pos id with h | h
        · exact .inl h
        · by_cases hM : id ∈ M
          · exact .inr hM
          · exact absurd ⟨hid, by omega, hM⟩ a1)]
      exact hC
  · intro b o v h
    rcases hre.con b o v h with h | h | ⟨id0, l0, ho, _, hl0, e⟩
    · exact .inl h
    · exact .inr (.inl h)
    · have ho2 := ownP_lock ho
      rcases ho2.2 with h | h
      · subst h; rw [hR.nil.2] at hl0; cases hl0
      · exact .inr (.inr ⟨id0, l0, ho2.1, ⟨h, ho2.1⟩, hl0, e⟩)

theorem Reach.weaken {W W' : Nat → Prop} {ρ' : Ren} {H' : AH} {w' : World} (h : Reach W ρ H w ρ' H' w') (hW : ∀ id, W id → W' id) : Reach W' ρ H w ρ' H' w' :=
  ⟨h.ren, h.nx, h.size, fun b hb hno => h.keep b hb fun id l hid => hno id l (hW id hid), fun id B l h1 h2 h3 => (h.own id B l h1 h2 h3).imp (fun h => h) (fun ⟨j, m, a1, a2, a3⟩ => ⟨j, m, a1, a2.imp (fun h => h) (hW j), a3⟩), h.ro, fun b o v e => (h.con b o v e).imp (fun h => h) (fun h => h.imp (fun h => h) (fun ⟨j, m, a1, a2, a3⟩ => ⟨j, m, a1, hW j a2, a3⟩)), h.env⟩

theorem call_run {g : FuncId} (hok : okFn P g = true) (args : Array Value) (w : World) : (callFunc g args).run P w = .ok (.enter g args) w := by
  unfold okFn at hok
  split at hok
  case h_2 => cases hok
  rename_i fn hfn
  simp only [Bool.and_eq_true, Bool.not_eq_true', beq_eq_false_iff_ne] at hok
  obtain ⟨h1, h2⟩ := hok
  simp only [callFunc, Sem.run_bind, run_program, Result.andThen_ok, hfn]
  have : (fn.name == "runtime.NumGoroutine") = false := by simpa using h2
  have hb : fn.body.isNone = false := by cases hh : fn.body <;> simp_all
  simp [this, hb, h2]

theorem e_callM (hf : FrOk ρ fr a) (hs : a.tmps.size = nt) (hR : Rel ρ H w) {f : Od} {args : List Od} (M : List Nat) (hM : ∀ id ∈ M, pw id)
    {c : Call} {f' : Operand} (e : o.op = .call c) (ecal : c.callee = .value f') (h1 : odOk nt f' f = true) (h2 : odsOk nt c.args.toList args = true) {g : FuncId} {cap : List AV} (ef : fr.ev f = .f g cap)
    (h : (env P).ct g (args.map fr.ev ++ cap) (H.lock M) fun r H' => K r (H.back M H')) : Eff P (WP H pw) ρ H w a o K := by
  have h0 := hR.nil.2
  have r1 := odOk.VR hf hs h0 h1
  have r2 := odsOk.VRs hf hs h0 h2
  rw [ef] at r1
  simp only [VR] at r1
  obtain ⟨vs, ev, hvs⟩ := r1
  obtain ⟨hok, hct⟩ := h
  have hc := hct ρ w (c.args.toList.map a.eval ++ vs) (hR.lock M) (r2.append hvs)
  intro Q
  unfold Oper.wp
  have hrun : (execOp a.eval o).run P w = .ok (.enter g (c.args.toList.map a.eval ++ vs).toArray) w := by
    simp only [execOp, e, resolve, ecal, ev, Deferred.ofValue, Sem.run_bind, Sem.run_pure, Result.andThen_ok, invoke]
    rw [call_run hok]
    congr 2
    apply Array.toList_inj.1
    simp
  rw [hrun, Oper.upon_enter]
  refine hc.mono ?_
  rintro en w' ⟨v, ρ', r, H1, rfl, hK, hv, hR1, hre⟩
  obtain ⟨q1, q2⟩ := hR.back M hR1 hre
  exact ⟨v, r, ρ', _, rfl, hK, hv, q1, q2.weaken fun id ⟨h1, h2⟩ => ⟨h2, hM id h1⟩⟩

theorem e_call (hf : FrOk ρ fr a) (hs : a.tmps.size = nt) (hR : Rel ρ H w) {f : Od} {args : List Od} (hc : checkOp P nt o.op (.call f args) = true)
    (h : aop (env P) pw rd (.call f args) fr H K) : Eff P (WP H pw) ρ H w a o K := by
  simp only [checkOp] at hc
  split at hc
  case h_2 => cases hc
  rename_i f' args' ts e
  simp only [Bool.and_eq_true] at hc
  simp only [aop] at h
  split at h
  case h_2 => exact h.elim
  rename_i g cap ef
  exact e_callM hf hs hR [] (by simp) e rfl hc.1 hc.2 ef h

theorem e_callm (hf : FrOk ρ fr a) (hs : a.tmps.size = nt) (hR : Rel ρ H w) {f : Od} {args : List Od} (hc : checkOp P nt o.op (.callm f args) = true)
    (h : aop (env P) pw rd (.callm f args) fr H K) : Eff P (WP H pw) ρ H w a o K := by
  simp only [checkOp] at hc
  split at hc
  case h_2 => cases hc
  rename_i f' args' ts e
  simp only [Bool.and_eq_true] at hc
  simp only [aop] at h
  split at h
  case h_2 => exact h.elim
  rename_i g cap ef
  obtain ⟨M, hM, h⟩ := h
  exact e_callM hf hs hR M hM e rfl hc.1 hc.2 ef h
end
end Go.Proofs.Ytamnlngihccgiaa.AM
