/- Every operation of the run is one of the abstract machine: all of them. -/
import Derived.Test.YtamnlngihccgiaaRd
namespace Go.Proofs.Ytamnlngihccgiaa.AM
set_option linter.all false
open Go
set_option linter.constructorNameAsVariable false
set_option linter.unusedSimpArgs false
section
variable {P : Program} {O : Orac} {m : Mp} {H : Hp} {H1 : AH} {H0 : AH} {In : Nat → Prop} {fr : Fr2} {fr1 : Fr}

theorem evss_replicate {vs : List V} {as : List AV} (h : EVs m vs as) : ∀ n : Nat, EVss m (List.replicate n vs) (List.replicate n as)
  | 0 => by simp [EVss]
  | n + 1 => by simp only [List.replicate_succ]; exact EVss.cons h (evss_replicate h n)
theorem evss_un {T : GT} (hz : m.φ 0 = 0) : ∀ {vs : List V} {as : List AV}, EVs m vs as → okRows T vs = true → (∀ v ∈ vs, leafs v.cellsOf = true) → EVss m ((unRows T vs).map (cells T)) (as.map cellsOf)
  | [], as, h, _, _ => by rw [h.inv0]; simp [unRows, EVss]
  | v :: r, as, h, ho, hl => by
    obtain ⟨a, q, rfl, h1, h2⟩ := h.inv
    simp only [okRows, Bool.and_eq_true] at ho
    simp only [unRows, List.map_cons]
    exact EVss.cons (un_ev hz T _ _ (ev_cellsOf h1 (hl v (by simp))) ho.1) (evss_un hz h2 ho.2 (fun u hu => hl u (by simp [hu])))
theorem evss_rowsOf : ∀ {vs : List V} {as : List AV}, EVs m vs as → (∀ v ∈ vs, leafs v.cellsOf = true) → EVss m (rowsOf vs) (as.map cellsOf)
  | [], as, h, _ => by rw [h.inv0]; simp [rowsOf, EVss]
  | v :: r, as, h, hl => by
    obtain ⟨a, q, rfl, h1, h2⟩ := h.inv
    simp only [rowsOf, List.map_cons]
    exact EVss.cons (ev_cellsOf h1 (hl v (by simp))) (evss_rowsOf h2 (fun u hu => hl u (by simp [hu])))
theorem rowsOk_iff {k : Nat} : ∀ {vs : List V}, rowsOk k vs = true → ∀ v ∈ vs, v.cellsOf.length = k ∧ leafs v.cellsOf = true
  | [], _, v, hv => by simp at hv
  | u :: r, h, v, hv => by
    simp only [rowsOk, Bool.and_eq_true] at h
    rcases List.mem_cons.1 hv with rfl | hv
    · exact ⟨Nat.eq_of_beq_eq_true h.1.1, h.1.2⟩
    · exact rowsOk_iff h.2 v hv
theorem evs_mem {vs : List V} {as : List AV} (h : EVs m vs as) {a : AV} (ha : a ∈ as) : ∃ v ∈ vs, EV m v a := by
  obtain ⟨i, hi⟩ := List.getElem?_of_mem ha
  have hl := h.length
  have hlt := (List.getElem?_eq_some_iff.1 hi).1
  obtain ⟨b, hb, e⟩ := h.nth (i := i) (by omega)
  rw [hi] at hb
  simp only [Option.some.injEq] at hb
  subst hb
  have : ∀ (vs : List V) (i : Nat), i < vs.length → nth vs i ∈ vs := by
    intro vs
    induction vs with
    | nil => intro i h; simp at h
    | cons v r ih =>
      intro i h
      cases i with
      | zero => simp [nth]
      | succ i => simp only [nth]; exact List.mem_cons_of_mem _ (ih i (by simpa using h))
  exact ⟨_, this vs i (by omega), e⟩
theorem bytes_ev : ∀ {xs : List Int} {rows : List (List AV)}, EVss m (List.map (cells (.i .u8)) xs) rows → bytesOfRows rows = some (xs.map fun v => UInt8.ofNat v.toNat)
  | [], rows, h => by
    replace h : EVss m [] rows := h
    rw [h.inv0]; rfl
  | x :: r, rows, h => by
    replace h : EVss m ([.n .u8 x] :: List.map (cells (.i .u8)) r) rows := h
    obtain ⟨a, q, rfl, h1, h2⟩ := h.inv
    simp only [EVs, EV] at h1
    obtain ⟨_, _, rfl, rfl, rfl⟩ := h1
    simp only [bytesOfRows, bytes_ev h2, Option.map_some, List.map_cons]

/-- Every operation. -/
theorem rop_sound (hO : OrcOk P O) (h : EH m H H1) (hX : EX H0 In m H1) (hf : FrE m fr fr1) {τ : Option GT} {o : AOp} {v : V} {H' : Hp} (hr : rop O τ o fr H = (true, v, H')) {K : AV → AH → Prop} (hd : H' = H → ∀ a, EV m v a → K a H1) (hn : (calmO o = true → ∃ g, O.isP g = false) → Next H0 In m v H' K) :
    aop (env P) (fun _ => True) (fun _ => True) o fr1 H1 K := by
  have done : ∀ {a : AV}, H' = H → EV m v a → K a H1 := fun e he => hd e _ he
  have pushed : ∀ {B : Blk2} {B1 : Blk} {a : AV}, calmO o = false → H' = H.push B → BE (m.add H1.nx B1.rows.length) m.nx B B1 → B1.own = true → EV (m.add H1.nx B1.rows.length) v a → K a (H1.push B1) := fun hc e hB ho he => by
    subst e
    exact hn (fun e => by rw [hc] at e; cases e) _ _ _ Mp.le_add he (h.push hB ho) hX.push
  have newB : ∀ {l : Nat}, (m.add H1.nx l).φ m.nx = H1.nx := fun {l} => by simp [Mp.add]
  have newL : ∀ {l : Nat}, (m.add H1.nx l).ln m.nx = l := fun {l} => by simp [Mp.add]
  cases o with
  | mov x =>
    simp only [rop, Prod.mk.injEq, true_and] at hr
    simp only [aop]
    refine done hr.2.symm ?_
    rw [← hr.1]; exact ev_ev h hf x
  | pick c x y =>
    simp only [rop, Tr.bad] at hr
    simp only [aop]
    have e1 := ev_ev h hf c
    have e2 := ev_ev h hf x
    have e3 := ev_ev h hf y
    generalize fr.ev c = vc at hr e1
    generalize fr.ev x = vx at hr e2
    generalize fr.ev y = vy at hr e3
    cases vc <;> try simp only [Prod.mk.injEq, Bool.false_eq_true, false_and] at hr
    cases vx <;> try simp only [Prod.mk.injEq, Bool.false_eq_true, false_and] at hr
    cases vy <;> try simp only [Prod.mk.injEq, Bool.false_eq_true, false_and, true_and] at hr
    simp only [EV] at e1 e2 e3
    rename_i c p q
    rw [e1]
    cases c
    · simp only
      refine done hr.2.symm ?_
      rw [← hr.1, e3]; simp only [cond_false, EV]
    · simp only
      refine done hr.2.symm ?_
      rw [← hr.1, e2]; simp only [cond_true, EV]
  | bin op x y =>
    simp only [rop, Prod.mk.injEq] at hr
    simp only [aop]
    refine rbin_ev (Prod.ext hr.1 hr.2.1) (ev_ev h hf x) (ev_ev h hf y) fun c hc => done hr.2.2.symm hc
  | beq neg x y =>
    simp only [rop, Tr.bad] at hr
    simp only [aop]
    have e1 := ev_ev h hf x
    have e2 := ev_ev h hf y
    generalize fr.ev x = vx at hr e1
    generalize fr.ev y = vy at hr e2
    cases vx <;> try simp only [Prod.mk.injEq, Bool.false_eq_true, false_and] at hr
    cases vy <;> try simp only [Prod.mk.injEq, Bool.false_eq_true, false_and, true_and] at hr
    simp only [EV] at e1 e2
    rw [e1, e2]
    simp only
    refine done hr.2.symm ?_
    rw [← hr.1]; cases neg <;> simp only [cond_true, cond_false, EV, if_true, Bool.false_eq_true, if_false]
  | eqs neg ty x y =>
    simp only [rop, Tr.bad] at hr
    simp only [aop]
    have e1 := ev_ev h hf x
    have e2 := ev_ev h hf y
    generalize fr.ev x = vx at hr e1
    generalize fr.ev y = vy at hr e2
    cases vx <;> try simp only [Prod.mk.injEq, Bool.false_eq_true, false_and] at hr
    cases vy <;> try simp only [Prod.mk.injEq, Bool.false_eq_true, false_and, Bool.and_eq_true] at hr
    rename_i xs ys
    simp only [EV] at e1 e2
    obtain ⟨as, e1, he1⟩ := e1
    obtain ⟨bs, e2, he2⟩ := e2
    rw [e1, e2]
    simp only
    obtain ⟨⟨k0, k1, k2⟩, hr1, hr2⟩ := hr
    have k0 : 1 ≤ xs.length := Nat.le_of_ble_eq_true k0
    have k1 := beqN_eq k1
    have k2 := beqN_eq k2
    by_cases hn : O.eq ty = []
    · exfalso
      rw [hn] at k1
      cases xs with
      | nil => exact absurd k0 (by decide)
      | cons v r => cases k1
    · obtain ⟨q1, q2⟩ := hO.eq ty hn
      rw [k1] at q2
      have kk : kds ys = kds xs := k2.symm.trans k1
      have a1 := kds_ev he1 q2
      have a2 := kds_ev he2 (by rw [kk]; exact q2)
      refine ⟨by rw [a1, ← k1]; exact q1, by rw [a1, a2, kk], ?_⟩
      rw [reqs_ev he1 he2 q2 kk]
      simp only
      refine done hr2.symm ?_
      rw [← hr1]
      cases neg <;> simp [EV]
  | eqn kd neg x =>
    simp only [aop]
    have e1 := ev_ev h hf x
    have fin : ∀ {r : Bool}, isNil kd (fr1.ev x) = some r → H' = H → v = .b (bif neg then !r else r) → (match isNil kd (fr1.ev x) with
        | some r => K (.b (if neg = true then !r else r)) H1
        | none => (fr1.ev x).isSl = true ∧ 2 ≤ kd ∧ ∀ r, K (.b r) H1) := fun {r} e1 e2 e3 => by
      rw [e1]
      simp only
      refine done e2 ?_
      rw [e3]
      cases neg <;> simp only [cond_true, cond_false, EV, if_true, Bool.false_eq_true, if_false]
    match kd with
    | 0 =>
      simp only [rop, Tr.bad] at hr
      generalize fr.ev x = vx at hr e1
      cases vx <;> simp only [Prod.mk.injEq, Bool.false_eq_true, false_and, true_and] at hr <;> simp only [EV] at e1
      · exact fin (r := true) (by rw [e1]; rfl) hr.2.symm (by rw [← hr.1]; cases neg <;> rfl)
      · exact fin (r := false) (by rw [e1.2]; rfl) hr.2.symm (by rw [← hr.1]; cases neg <;> rfl)
    | 1 =>
      simp only [rop, Tr.bad] at hr
      generalize fr.ev x = vx at hr e1
      cases vx <;> simp only [Prod.mk.injEq, Bool.false_eq_true, false_and, true_and] at hr <;> simp only [EV] at e1
      · exact fin (r := true) (by rw [e1]; rfl) hr.2.symm (by rw [← hr.1]; cases neg <;> rfl)
      · obtain ⟨v', e1, _⟩ := e1
        exact fin (r := false) (by rw [e1]; rfl) hr.2.symm (by rw [← hr.1]; cases neg <;> rfl)
    | kd + 2 =>
      simp only [rop, Tr.bad] at hr
      generalize fr.ev x = vx at hr e1
      cases vx <;> simp only [Prod.mk.injEq, Bool.false_eq_true, false_and, true_and] at hr <;> simp only [EV] at e1
      rename_i id lo n
      have h0 := Nat.eq_of_beq_eq_true hr.1
      subst h0
      exact fin (r := true) (by rw [e1.2, h.z]; rfl) hr.2.2.symm (by rw [← hr.2.1]; cases neg <;> rfl)
  | un op x =>
    simp only [rop, Prod.mk.injEq] at hr
    simp only [aop]
    exact run1_ev (Prod.ext hr.1 hr.2.1) (ev_ev h hf x) fun c hc => done hr.2.2.symm hc
  | conv k x =>
    simp only [rop, Tr.bad] at hr
    simp only [aop]
    have e1 := ev_ev h hf x
    generalize fr.ev x = vx at hr e1
    cases vx <;> try simp only [Prod.mk.injEq, Bool.false_eq_true, false_and, true_and] at hr
    simp only [EV] at e1
    rw [e1]
    simp only
    refine done hr.2.symm ?_
    rw [← hr.1]; simp only [EV]
  | bts x =>
    simp only [rop, Tr.bad] at hr
    simp only [aop]
    have e1 := ev_ev h hf x
    generalize hc : cnt H (fr.ev x) = c at hr
    cases c <;> simp only [Prod.mk.injEq, Bool.false_eq_true, false_and, true_and] at hr
    case ty T xs =>
      have hT := GT.eq_of_beq _ _ hr.1
      subst hT
      rw [castL_self] at hr
      obtain ⟨rows, k, h1, h2, _⟩ := cnt_ty h hc e1
      generalize fr1.ev x = ax at h1
      cases h1 with
      | l id i n B b1 b2 b3 =>
        simp only [AH.get, b1]
        refine ⟨b2, ?_⟩
        rw [bytes_ev h2]
        refine ⟨trivial, done hr.2.2.symm ?_⟩
        rw [← hr.2.1]; simp only [EV, bytesI]
      | q rows k hh =>
        simp only
        rw [bytes_ev h2]
        refine ⟨trivial, done hr.2.2.symm ?_⟩
        rw [← hr.2.1]; simp only [EV, bytesI]
    case nil =>
      have e := cnt_nil h hc e1
      rw [e]
      simp only [AH.get, h.nil]
      refine ⟨by simp [nilBlk], ?_⟩
      have : bytesOfRows ((nilBlk.rows.drop 0).take 0) = some [] := rfl
      rw [this]
      refine ⟨trivial, done hr.2.symm ?_⟩
      rw [← hr.1]; simp only [EV]
  | fld off sz ag x =>
    simp only [rop, Tr.bad] at hr
    simp only [aop]
    have e1 := ev_ev h hf x
    generalize fr.ev x = vx at hr e1
    cases vx <;> try simp only [Prod.mk.injEq, Bool.false_eq_true, false_and] at hr
    simp only [EV] at e1
    obtain ⟨as, e1, he⟩ := e1
    obtain ⟨a, ha, hv⟩ := part_ev (Prod.ext hr.1 hr.2.1) he
    rw [e1]
    simp only [ha]
    exact done hr.2.2.symm hv
  | ext ix x =>
    simp only [rop, Tr.bad] at hr
    simp only [aop]
    have e1 := ev_ev h hf x
    generalize fr.ev x = vx at hr e1
    cases vx <;> try simp only [Prod.mk.injEq, Bool.false_eq_true, false_and] at hr
    simp only [EV] at e1
    obtain ⟨as, e1, he⟩ := e1
    rename_i cs
    have hlt : ix < cs.length := by have := hr.1; simp only [Nat.blt, Nat.ble_eq] at this; omega
    obtain ⟨a, ha, hv⟩ := he.nth hlt
    rw [e1]
    simp only [ha]
    refine done hr.2.2.symm ?_
    rw [← hr.2.1]; exact hv
  | nilc x =>
    simp only [rop, Tr.bad] at hr
    simp only [aop]
    have e1 := ev_ev h hf x
    generalize fr.ev x = vx at hr e1
    cases vx <;> try simp only [Prod.mk.injEq, Bool.false_eq_true, false_and, true_and] at hr
    case p =>
      have e2 := e1
      simp only [EV] at e1
      rw [e1.2]
      simp only
      refine done hr.2.symm ?_
      rw [← hr.1, ← e1.2]; exact e2
    case pq =>
      have e2 := e1
      simp only [EV] at e1
      rw [e1]
      simp only
      refine done hr.2.symm ?_
      rw [← hr.1, ← e1]; exact e2
  | fad off x =>
    simp only [rop, Tr.bad] at hr
    simp only [aop]
    have e1 := ev_ev h hf x
    generalize fr.ev x = vx at hr e1
    cases vx <;> try simp only [Prod.mk.injEq, Bool.false_eq_true, false_and, true_and] at hr
    case p =>
      simp only [EV] at e1
      rw [e1.2]
      simp only
      refine done hr.2.symm ?_
      rw [← hr.1]; simp only [EV]; exact ⟨e1.1, True.intro⟩
    case pq =>
      simp only [EV] at e1
      rw [e1]
      simp only
      refine done hr.2.symm ?_
      rw [← hr.1]; simp only [EV]
  | iad k x ix =>
    simp only [rop, Tr.bad] at hr
    simp only [aop]
    have e1 := ev_ev h hf x
    have e2 := ev_ev h hf ix
    generalize fr.ev ix = vi at hr e2
    cases vi <;> try simp only [Prod.mk.injEq, Bool.false_eq_true, false_and] at hr
    rename_i ki iv
    simp only [EV] at e2
    generalize fr.ev x = vx at hr e1
    cases vx <;> try simp only [Prod.mk.injEq, Bool.false_eq_true, false_and] at hr
    case l id lo n =>
      simp only [EV] at e1
      rw [e1.2, e2]
      simp only
      cases hg : H.get id with
      | dead => rw [hg] at hr; simp at hr
      | ty T xs =>
        rw [hg] at hr
        simp only [Prod.mk.injEq, Bool.and_eq_true] at hr
        obtain ⟨⟨h2, h1⟩, h3, h4⟩ := hr
        obtain ⟨i1, i2, i3⟩ := inb_iff h1
        obtain ⟨a1, B, a2, a3, a4, a5⟩ := h.blk id (by rw [hg]; simp)
        rw [hg] at a3
        have hnz : m.φ id ≠ 0 := fun e => by have := h.ln0 (by rw [hg]; simp) e; omega
        refine ⟨?_, i1, i2, done h4.symm ?_⟩
        · simp only [AH.get, a2, Option.map_some, Option.some.injEq]
          exact (a3.1.resolve_left hnz).trans (Nat.eq_of_beq_eq_true h2)
        · rw [← h3]; simp only [EV]; exact ⟨⟨a1, by omega⟩, True.intro⟩
      | un k' rows =>
        rw [hg] at hr
        simp only [Prod.mk.injEq, Bool.and_eq_true] at hr
        obtain ⟨⟨h2, h1⟩, h3, h4⟩ := hr
        obtain ⟨i1, i2, i3⟩ := inb_iff h1
        obtain ⟨a1, B, a2, a3, a4, a5⟩ := h.blk id (by rw [hg]; simp)
        rw [hg] at a3
        refine ⟨?_, i1, i2, done h4.symm ?_⟩
        · simp only [AH.get, a2, Option.map_some, Option.some.injEq]
          exact a3.1.trans (Nat.eq_of_beq_eq_true h2)
        · rw [← h3]; simp only [EV]; exact ⟨⟨a1, by omega⟩, True.intro⟩
    case w id =>
      simp only [EV] at e1
      rw [e1.2, e2]
      simp only
      cases hg : H.get id with
      | dead => rw [hg] at hr; simp at hr
      | ty T xs =>
        rw [hg] at hr
        simp only [Prod.mk.injEq, Bool.and_eq_true] at hr
        obtain ⟨⟨h2, h1⟩, h3, h4⟩ := hr
        obtain ⟨i1, i2, i3⟩ := inb_iff h1
        obtain ⟨a1, B, a2, a3, a4, a5⟩ := h.blk id (by rw [hg]; simp)
        rw [hg] at a3
        have hl := a3.2.length
        simp only [List.length_map] at hl
        have hnz : m.φ id ≠ 0 := fun e => by have := h.ln0 (by rw [hg]; simp) e; omega
        refine ⟨?_, i1, by omega, ?_⟩
        · simp only [AH.get, a2, Option.map_some, Option.some.injEq]
          exact (a3.1.resolve_left hnz).trans (Nat.eq_of_beq_eq_true h2)
        · rw [Nat.zero_add]
          refine done h4.symm ?_
          rw [← h3]; simp only [EV]; exact ⟨⟨a1, by omega⟩, True.intro⟩
      | un k' rows =>
        rw [hg] at hr
        simp only [Prod.mk.injEq, Bool.and_eq_true] at hr
        obtain ⟨⟨h2, h1⟩, h3, h4⟩ := hr
        obtain ⟨i1, i2, i3⟩ := inb_iff h1
        obtain ⟨a1, B, a2, a3, a4, a5⟩ := h.blk id (by rw [hg]; simp)
        rw [hg] at a3
        have hl := a3.2.length
        refine ⟨?_, i1, by omega, ?_⟩
        · simp only [AH.get, a2, Option.map_some, Option.some.injEq]
          exact a3.1.trans (Nat.eq_of_beq_eq_true h2)
        · rw [Nat.zero_add]
          refine done h4.symm ?_
          rw [← h3]; simp only [EV]; exact ⟨⟨a1, by omega⟩, True.intro⟩
    case q T xs =>
      simp only [Bool.and_eq_true] at hr
      obtain ⟨⟨h2, h1⟩, h3, h4⟩ := hr
      obtain ⟨i1, i2, i3⟩ := inb_iff h1
      simp only [EV] at e1
      rcases e1 with e1 | ⟨rfl, _⟩
      · rw [e1, e2]
        simp only
        refine ⟨i1, ?_⟩
        have : (xs.map (cellsA T))[iv.toNat]? = some (cellsA T (xs.getD iv.toNat T.dflt)) := by
          rw [List.getElem?_map, getD_get (d := T.dflt) i3]; rfl
        rw [this]
        simp only
        refine ⟨(cellsA_size T _).trans (Nat.eq_of_beq_eq_true h2), done h4.symm ?_⟩
        rw [← h3]; simp only [EV]
      · simp at i3
  | idx x ix =>
    simp only [rop, Tr.bad] at hr
    simp only [aop]
    have e1 := ev_ev h hf x
    have e2 := ev_ev h hf ix
    generalize fr.ev x = vx at hr e1
    generalize fr.ev ix = vi at hr e2
    cases vx <;> try simp only [Prod.mk.injEq, Bool.false_eq_true, false_and] at hr
    cases vi <;> try simp only [Prod.mk.injEq, Bool.false_eq_true, false_and] at hr
    simp only [EV] at e1 e2
    rw [e1, e2]
    simp only
    obtain ⟨i1, i2, i3⟩ := inb_iff hr.1
    refine ⟨i1, i2, done hr.2.2.symm ?_⟩
    rw [← hr.2.1]; simp only [EV]
  | sls k x lo hi =>
    simp only [rop, Tr.bad] at hr
    simp only [aop]
    have e1 := ev_ev h hf x
    generalize hlo : bnd2 fr lo 0 = bl at hr
    obtain ⟨ok1, l⟩ := bl
    simp only at hr
    generalize fr.ev x = vx at hr e1
    cases vx <;> try simp only [Prod.mk.injEq, Bool.false_eq_true, false_and] at hr
    case w id =>
      simp only [EV] at e1
      rw [e1.2]
      simp only
      cases hg : H.get id with
      | dead => rw [hg] at hr; simp at hr
      | ty T xs =>
        rw [hg] at hr
        simp only at hr
        generalize hhi : bnd2 fr hi (xs.length : Int) = bh at hr
        obtain ⟨ok2, hh⟩ := bh
        simp only [Prod.mk.injEq, Bool.and_eq_true] at hr
        obtain ⟨⟨⟨rfl, rfl⟩, h2, h1⟩, h3, h4⟩ := hr
        obtain ⟨b1, b2⟩ := bnd2_ev (d := 0) h hf hlo
        obtain ⟨b3, b4⟩ := bnd2_ev h hf hhi
        obtain ⟨i1, i2, i3⟩ := slOk_iff h1 b2 b4 (by omega)
        obtain ⟨a1, B, a2, a3, a4, a5⟩ := h.blk id (by rw [hg]; simp)
        rw [hg] at a3
        have hl := a3.2.length
        simp only [List.length_map] at hl
        rw [b1, show m.ln id = xs.length by omega, b3]
        simp only
        refine ⟨i1, i2, i3, ?_, done h4.symm ?_⟩
        · by_cases hz : m.φ id = 0
          · left
            have := h.ln0 (by rw [hg]; simp) hz
            omega
          · right
            simp only [AH.get, a2, Option.map_some, Option.some.injEq]
            exact (a3.1.resolve_left hz).trans (Nat.eq_of_beq_eq_true h2)
        · rw [← h3, Nat.zero_add, slN_eq b2]; simp only [EV]
          exact ⟨⟨a1, by omega⟩, True.intro⟩
      | un k' rows =>
        rw [hg] at hr
        simp only at hr
        generalize hhi : bnd2 fr hi (rows.length : Int) = bh at hr
        obtain ⟨ok2, hh⟩ := bh
        simp only [Prod.mk.injEq, Bool.and_eq_true] at hr
        obtain ⟨⟨⟨rfl, rfl⟩, h2, h1⟩, h3, h4⟩ := hr
        obtain ⟨b1, b2⟩ := bnd2_ev (d := 0) h hf hlo
        obtain ⟨b3, b4⟩ := bnd2_ev h hf hhi
        obtain ⟨i1, i2, i3⟩ := slOk_iff h1 b2 b4 (by omega)
        obtain ⟨a1, B, a2, a3, a4, a5⟩ := h.blk id (by rw [hg]; simp)
        rw [hg] at a3
        have hl := a3.2.length
        rw [b1, show m.ln id = rows.length by omega, b3]
        simp only
        refine ⟨i1, i2, i3, ?_, done h4.symm ?_⟩
        · right
          simp only [AH.get, a2, Option.map_some, Option.some.injEq]
          exact a3.1.trans (Nat.eq_of_beq_eq_true h2)
        · rw [← h3, Nat.zero_add, slN_eq b2]; simp only [EV]
          exact ⟨⟨a1, by omega⟩, True.intro⟩
    case l id lo0 n =>
      simp only [EV] at e1
      rw [e1.2]
      simp only
      generalize hhi : bnd2 fr hi (n : Int) = bh at hr
      obtain ⟨ok2, hh⟩ := bh
      simp only [Prod.mk.injEq, Bool.and_eq_true] at hr
      obtain ⟨⟨⟨rfl, rfl⟩, h2, h1⟩, h3, h4⟩ := hr
      obtain ⟨b1, b2⟩ := bnd2_ev (d := 0) h hf hlo
      obtain ⟨b3, b4⟩ := bnd2_ev h hf hhi
      obtain ⟨i1, i2, i3⟩ := slOk_iff h1 b2 b4 (by omega)
      rw [b1, b3]
      simp only
      refine ⟨i1, i2, i3, ?_, done h4.symm ?_⟩
      · cases hg : H.get id with
        | dead => rw [hg] at h2; simp at h2
        | ty T xs =>
          rw [hg] at h2
          obtain ⟨a1, B, a2, a3, a4, a5⟩ := h.blk id (by rw [hg]; simp)
          rw [hg] at a3
          by_cases hz : m.φ id = 0
          · left
            have := h.ln0 (by rw [hg]; simp) hz
            omega
          · right
            simp only [AH.get, a2, Option.map_some, Option.some.injEq]
            exact (a3.1.resolve_left hz).trans (Nat.eq_of_beq_eq_true h2)
        | un k' rows =>
          rw [hg] at h2
          obtain ⟨a1, B, a2, a3, a4, a5⟩ := h.blk id (by rw [hg]; simp)
          rw [hg] at a3
          right
          simp only [AH.get, a2, Option.map_some, Option.some.injEq]
          exact a3.1.trans (Nat.eq_of_beq_eq_true h2)
      · rw [← h3, slN_eq b2]; simp only [EV]
        exact ⟨⟨e1.1.1, by omega⟩, True.intro⟩
    case q T xs =>
      generalize hhi : bnd2 fr hi (xs.length : Int) = bh at hr
      obtain ⟨ok2, hh⟩ := bh
      simp only [Prod.mk.injEq, Bool.and_eq_true] at hr
      obtain ⟨⟨⟨rfl, rfl⟩, h2, h1⟩, h3, h4⟩ := hr
      obtain ⟨b1, b2⟩ := bnd2_ev (d := 0) h hf hlo
      obtain ⟨b3, b4⟩ := bnd2_ev h hf hhi
      obtain ⟨i1, i2, i3⟩ := slOk_iff h1 b2 b4 (by omega)
      have hsub : qsub hi xs l.toNat (slN lo hi l hh) = (xs.drop l.toNat).take (hh.toNat - l.toNat) := by
        cases hi with
        | none =>
          simp only [qsub]
          rw [List.take_of_length_le]
          have := b4 rfl
          simp; omega
        | some y => simp only [qsub]; rw [slN_eq b2]
      simp only [EV] at e1
      rcases e1 with e1 | ⟨rfl, e1⟩
      · rw [e1]
        simp only [List.length_map]
        rw [b1, b3]
        simp only
        refine ⟨i1, i2, i3, .inr ?_, done h4.symm ?_⟩
        · intro r hr'
          obtain ⟨y, _, rfl⟩ := List.mem_map.1 hr'
          exact (cellsA_size T y).trans (Nat.eq_of_beq_eq_true h2)
        · rw [← h3, hsub]; simp only [EV, List.map_take, List.map_drop]; exact .inl trivial
      · rw [e1]
        simp only [List.length_nil] at b3 i3
        simp only
        rw [b1, b3]
        simp only
        have hl0 : l = 0 := by simp at i3; omega
        have hh0 : hh = 0 := by simp at i3; omega
        subst hl0; subst hh0
        refine ⟨i1, i2, by omega, .inl rfl, done h4.symm ?_⟩
        rw [← h3, hsub]; simp [EV]
  | sst x lo hi =>
    simp only [rop, Tr.bad] at hr
    simp only [aop]
    have e1 := ev_ev h hf x
    generalize fr.ev x = vx at hr e1
    cases vx <;> try simp only [Prod.mk.injEq, Bool.false_eq_true, false_and] at hr
    rename_i s
    generalize hlo : bnd2 fr lo 0 = bl at hr
    obtain ⟨ok1, l⟩ := bl
    generalize hhi : bnd2 fr hi (s.size : Int) = bh at hr
    obtain ⟨ok2, hh⟩ := bh
    simp only [Prod.mk.injEq, Bool.and_eq_true] at hr
    obtain ⟨⟨⟨rfl, rfl⟩, h1⟩, h3, h4⟩ := hr
    obtain ⟨b1, b2⟩ := bnd2_ev (d := 0) h hf hlo
    obtain ⟨b3, b4⟩ := bnd2_ev h hf hhi
    obtain ⟨i1, i2, i3⟩ := slOk_iff h1 b2 b4 (by omega)
    simp only [EV] at e1
    rw [e1]
    simp only
    rw [b1, b3]
    simp only
    refine ⟨i1, i2, i3, done h4.symm ?_⟩
    rw [← h3]; simp only [EV]
  | load sz ag x =>
    simp only [rop, Tr.bad] at hr
    simp only [aop]
    have e1 := ev_ev h hf x
    generalize fr.ev x = vx at hr e1
    cases vx <;> try simp only [Prod.mk.injEq, Bool.false_eq_true, false_and] at hr
    case p id i j =>
      simp only [EV] at e1
      rw [e1.2]
      simp only
      refine ⟨trivial, ?_⟩
      cases hg : H.get id with
      | dead => rw [hg] at hr; simp at hr
      | ty T xs =>
        rw [hg] at hr
        simp only [Prod.mk.injEq] at hr
        obtain ⟨a1, B, a2, a3, a4, a5⟩ := h.blk id (by rw [hg]; simp)
        rw [hg] at a3
        have hl := a3.2.length
        simp only [List.length_map] at hl
        obtain ⟨row, hrow, hre⟩ := a3.2.get (i := i) (Cps.map_cells (getD_get (d := T.dflt) (by omega)))
        obtain ⟨a, ha, hv⟩ := part_ev (Prod.ext hr.1 hr.2.1) hre
        simp only [AH.row, AH.get, a2, Option.bind_some, hrow, ha]
        exact done hr.2.2.symm hv
      | un k rows =>
        rw [hg] at hr
        simp only at hr
        cases hri : rows[i]? with
        | none => rw [hri] at hr; simp at hr
        | some r =>
          rw [hri] at hr
          simp only [Prod.mk.injEq] at hr
          obtain ⟨a1, B, a2, a3, a4, a5⟩ := h.blk id (by rw [hg]; simp)
          rw [hg] at a3
          obtain ⟨row, hrow, hre⟩ := a3.2.get hri
          obtain ⟨a, ha, hv⟩ := part_ev (Prod.ext hr.1 hr.2.1) hre
          simp only [AH.row, AH.get, a2, Option.bind_some, hrow, ha]
          exact done hr.2.2.symm hv
    case pq T r j =>
      simp only [EV] at e1
      rw [e1]
      simp only
      refine ⟨trivial, ?_⟩
      obtain ⟨a, ha, hv⟩ := part_ev (Prod.ext hr.1 hr.2.1) (ev_cells m T r)
      simp only [ha]
      exact done hr.2.2.symm hv
  | stor sz x y =>
    simp only [rop, Tr.bad] at hr
    simp only [aop]
    have e1 := ev_ev h hf x
    have e2 := ev_ev h hf y
    generalize fr.ev x = vx at hr e1
    generalize fr.ev y = vy at hr e2
    cases vx <;> try simp only [Prod.mk.injEq, Bool.false_eq_true, false_and] at hr
    case p id i j =>
      simp only [EV] at e1
      rw [e1.2]
      simp only
      refine ⟨trivial, ?_⟩
      cases hg : H.get id with
      | dead => rw [hg] at hr; simp at hr
      | ty T xs =>
        rw [hg] at hr
        simp only [Prod.mk.injEq, Bool.and_eq_true] at hr
        obtain ⟨⟨k1, k2, hlf, k3⟩, h3, h4⟩ := hr
        have k1 := Nat.eq_of_beq_eq_true k1
        have k2 := Nat.le_of_ble_eq_true k2
        obtain ⟨a1, B, a2, a3, a4, a5⟩ := h.blk id (by rw [hg]; simp)
        rw [hg] at a3
        have hl := a3.2.length
        simp only [List.length_map] at hl
        obtain ⟨row, hrow, hre⟩ := a3.2.get (i := i) (Cps.map_cells (getD_get (d := T.dflt) (by omega)))
        have hnz : m.φ id ≠ 0 := fun e => by have := h.ln0 (by rw [hg]; simp) e; omega
        have hc := ev_cellsOf e2 hlf
        have hrl := hre.length
        rw [cells_size] at hrl
        simp only [AH.get, a2, hrow]
        refine ⟨a4, hc.length.trans k1, by omega, leafs_all hc hlf, ?_⟩
        refine hn (fun e => by cases e) m _ _ (Mp.Le.refl m) (by rw [← h3]; simp only [EV]; exact ⟨_, rfl, EVs.nil⟩) ?_ (hX.put a1 hnz)
        rw [← h4]
        refine h.put (by rw [hg]; simp) hnz ⟨a3.1, ?_⟩ a4 (by simp only [List.length_set]; exact a5)
        have := a3.2.set i (un_ev h.z T _ _ (putV_ev (off := j) hre hc) k3)
        rw [List.map_set]
        exact this
      | un k rows =>
        rw [hg] at hr
        simp only at hr
        cases hri : rows[i]? with
        | none => rw [hri] at hr; simp at hr
        | some r =>
          rw [hri] at hr
          simp only [Prod.mk.injEq, Bool.and_eq_true] at hr
          obtain ⟨⟨k1, k2, k3⟩, h3, h4⟩ := hr
          have k1 := Nat.eq_of_beq_eq_true k1
          have k2 := Nat.le_of_ble_eq_true k2
          obtain ⟨a1, B, a2, a3, a4, a5⟩ := h.blk id (by rw [hg]; simp)
          rw [hg] at a3
          obtain ⟨row, hrow, hre⟩ := a3.2.get hri
          have hnz : m.φ id ≠ 0 := fun e => by have := h.ln0 (by rw [hg]; simp) e; omega
          have hc := ev_cellsOf e2 k3
          have hrl := hre.length
          simp only [AH.get, a2, hrow]
          refine ⟨a4, hc.length.trans k1, by omega, leafs_all hc k3, ?_⟩
          refine hn (fun e => by cases e) m _ _ (Mp.Le.refl m) (by rw [← h3]; simp only [EV]; exact ⟨_, rfl, EVs.nil⟩) ?_ (hX.put a1 hnz)
          rw [← h4]
          exact h.put (by rw [hg]; simp) hnz ⟨a3.1, a3.2.set i (putV_ev (off := j) hre hc)⟩ a4 (by simp only [List.length_set]; exact a5)
  | box x =>
    simp only [rop, Prod.mk.injEq] at hr
    simp only [aop]
    have e1 := ev_ev h hf x
    have hc := ev_cellsOf e1 hr.1
    refine ⟨leafs_all hc hr.1, pushed (B := .un (fr.ev x).cellsOf.length [(fr.ev x).cellsOf]) rfl hr.2.2.symm ⟨by simp only [hc.length], EVss.cons (EVs.mono Mp.le_add _ _ hc) (by simp only [EVss])⟩ rfl ?_⟩
    rw [← hr.2.1]
    simp only [EV, h.nx, newB, newL, List.length_singleton]
    exact ⟨⟨Nat.lt_succ_self _, Nat.lt_succ_self _⟩, True.intro⟩
  | aloc zero =>
    simp only [rop, Prod.mk.injEq] at hr
    simp only [aop]
    have hc := ofAVs_ev h.pos h.z h.zl zero
    refine ⟨leafs_all hc hr.1, pushed (B := .un (ofAVs zero).length [ofAVs zero]) rfl hr.2.2.symm ⟨by simp only [hc.length], EVss.cons (EVs.mono Mp.le_add _ _ hc) (by simp only [EVss])⟩ rfl ?_⟩
    rw [← hr.2.1]
    simp only [EV, h.nx, newB, newL, List.length_singleton]
    exact ⟨⟨Nat.lt_succ_self _, Nat.lt_succ_self _⟩, True.intro⟩
  | bld zero parts =>
    simp only [rop, Prod.mk.injEq] at hr
    simp only [aop]
    have hc := ofAVs_ev h.pos h.z h.zl zero
    obtain ⟨p1, p2⟩ := fill2_ev h hf hr.1 hc
    refine ⟨p1, done hr.2.2.symm ?_⟩
    rw [← hr.2.1]; simp only [EV]; exact ⟨_, rfl, p2⟩
  | bsl k rows =>
    simp only [rop] at hr
    simp only [aop]
    have hc := evs_ev h hf rows
    have hlen : (rows.map fun x => cellsOf (fr1.ev x)) = (rows.map fr1.ev).map cellsOf := by simp
    have hrow : ∀ {kk : Bool}, rowsOk k (evs fr rows) = true → ∀ x ∈ rows, (cellsOf (fr1.ev x)).length = k ∧ (cellsOf (fr1.ev x)).all AV.leaf = true := fun {kk} hk x hx => by
      obtain ⟨v, hv, e⟩ := evs_mem hc (List.mem_map_of_mem hx)
      obtain ⟨q1, q2⟩ := rowsOk_iff hk v hv
      have := ev_cellsOf e q2
      exact ⟨this.length.trans q1, leafs_all this q2⟩
    cases τ with
    | some T =>
      simp only [Prod.mk.injEq, Bool.and_eq_true] at hr
      obtain ⟨⟨k1, k2, k3⟩, h3, h4⟩ := hr
      refine ⟨hrow (kk := true) k1, pushed (B := .ty T (unRows T (evs fr rows))) rfl h4.symm ⟨.inr (Nat.eq_of_beq_eq_true k2).symm, ?_⟩ rfl ?_⟩
      · rw [hlen]
        exact EVss.mono Mp.le_add _ _ (evss_un h.z hc k3 fun v hv => (rowsOk_iff k1 v hv).2)
      · rw [← h3]
        simp only [EV, h.nx, newB, newL, List.length_map]
        exact ⟨Nat.lt_succ_self _, True.intro⟩
    | none =>
      simp only [Prod.mk.injEq] at hr
      obtain ⟨k1, h3, h4⟩ := hr
      refine ⟨hrow (kk := true) k1, pushed (B := .un k (rowsOf (evs fr rows))) rfl h4.symm ⟨rfl, ?_⟩ rfl ?_⟩
      · rw [hlen]
        exact EVss.mono Mp.le_add _ _ (evss_rowsOf hc fun v hv => (rowsOk_iff k1 v hv).2)
      · rw [← h3]
        simp only [EV, h.nx, newB, newL, List.length_map]
        exact ⟨Nat.lt_succ_self _, True.intro⟩
  | mks by_ zero len =>
    simp only [rop, Tr.bad] at hr
    simp only [aop]
    have e1 := ev_ev h hf len
    have hc := ofAVs_ev h.pos h.z h.zl zero
    generalize fr.ev len = vx at hr e1
    cases vx <;> try simp only [Prod.mk.injEq, Bool.false_eq_true, false_and] at hr
    rename_i kk n
    simp only [EV] at e1
    rw [e1]
    simp only
    cases τ with
    | some T =>
      simp only [Prod.mk.injEq, Bool.and_eq_true] at hr
      obtain ⟨⟨⟨k4, k5⟩, km⟩, h3, h4⟩ := hr
      obtain ⟨k1, k2, k3⟩ := mkOk_iff km
      have hu := un_ev h.z T _ _ hc k4
      refine ⟨k1, k2, k3, leafs_all hc k5, pushed (B := .ty T (List.replicate n.toNat (un T (ofAVs zero)))) rfl h4.symm ⟨.inr ?_, ?_⟩ rfl ?_⟩
      · simp only; rw [hu.length, cells_size]
      · simp only [List.map_replicate]
        exact EVss.mono Mp.le_add _ _ (evss_replicate hu _)
      · rw [← h3]
        simp only [EV, h.nx, newB, newL, List.length_replicate]
        exact ⟨Nat.lt_succ_self _, True.intro⟩
    | none =>
      simp only [Prod.mk.injEq, Bool.and_eq_true] at hr
      obtain ⟨⟨k5, km⟩, h3, h4⟩ := hr
      obtain ⟨k1, k2, k3⟩ := mkOk_iff km
      refine ⟨k1, k2, k3, leafs_all hc k5, pushed (B := .un zero.length (List.replicate n.toNat (ofAVs zero))) rfl h4.symm ⟨rfl, ?_⟩ rfl ?_⟩
      · exact EVss.mono Mp.le_add _ _ (evss_replicate hc _)
      · rw [← h3]
        simp only [EV, h.nx, newB, newL, List.length_replicate]
        exact ⟨Nat.lt_succ_self _, True.intro⟩
  | mkf g cap =>
    simp only [rop, Prod.mk.injEq, true_and] at hr
    simp only [aop]
    refine done hr.2.symm ?_
    rw [← hr.1]; simp only [EV]; exact ⟨_, rfl, evs_ev h hf cap⟩
  | call f args =>
    simp only [rop, Tr.bad] at hr
    simp only [aop]
    have e1 := ev_ev h hf f
    generalize fr.ev f = vx at hr e1
    cases vx <;> try simp only [Prod.mk.injEq, Bool.false_eq_true, false_and] at hr
    rename_i g cap
    simp only [EV] at e1
    obtain ⟨cap', e1, he⟩ := e1
    rw [e1]
    simp only
    have ha := (evs_ev h hf args).append he
    cases hp : O.isP g with
    | true =>
      rw [hp] at hr
      simp only [cond_true] at hr
      have hH : H' = H := by
        cases hi : V.ideds (evs fr args ++ cap) <;> rw [hi] at hr <;> simp only [cond_true, cond_false, Prod.mk.injEq] at hr <;> exact hr.2.2.symm
      subst hH
      exact call_ev hO h ha (by simpa using hr) (hd rfl)
    | false =>
      rw [hp] at hr
      simp only [cond_false] at hr
      exact hO.mo g _ H v H' hr m H1 _ H0 In ha h hX K (hn fun _ => ⟨g, hp⟩)
  | callm f args =>
    simp only [rop, Tr.bad] at hr
    simp only [aop]
    have e1 := ev_ev h hf f
    generalize fr.ev f = vx at hr e1
    cases vx <;> try simp only [Prod.mk.injEq, Bool.false_eq_true, false_and] at hr
    rename_i g cap
    simp only [EV] at e1
    obtain ⟨cap', e1, he⟩ := e1
    rw [e1]
    simp only
    have ha := (evs_ev h hf args).append he
    obtain ⟨M, hM⟩ := hO.mt g _ H v H' hr m H1 _ H0 In ha h hX K (hn fun e => by cases e)
    exact ⟨M, fun _ _ => trivial, hM⟩
  | app by_ k x y =>
    simp only [rop, Tr.bad] at hr
    have e1 := ev_ev h hf x
    have e2 := ev_ev h hf y
    generalize hi : idOf (fr.ev x) = oi at hr
    generalize hcx : cnt H (fr.ev x) = cx at hr
    generalize hcy : cnt H (fr.ev y) = cy at hr
    cases oi with
    | none => simp at hr
    | some id =>
      obtain ⟨i, n, ex, hid⟩ := idOf_ev hi e1
      have killed : ∀ {B : Blk2} {B1 : Blk} {a : AV}, H.get id ≠ .dead → H' = (H.kill id).push B → BE (m.add H1.nx B1.rows.length) m.nx B B1 → B1.own = true → EV (m.add H1.nx B1.rows.length) v a → K a ((H1.kill (m.φ id)).push B1) := fun hdd e hB ho he => by
        subst e
        have h' := h.kill hdd
        exact hn (fun e => by cases e) _ _ _ Mp.le_add he (h'.push (B1 := _) hB ho) (hX.kill hid).push
      cases cx with
      | bad => cases cy <;> simp at hr
      | nil =>
        have ex' := cnt_nil h hcx e1
        have r1 := nilRow h
        have hkill : H1.kill 0 = H1 := AH.ext' (fun j => by simp only [AH.kill]; rw [if_neg (by omega)]) rfl
        cases cy with
        | bad => simp at hr
        | nil =>
          have ey := cnt_nil h hcy e2
          cases τ with
          | none => simp at hr
          | some T =>
            simp only [Prod.mk.injEq] at hr
            refine app_ev (fun _ => trivial) ex' r1 (.inr rfl) (r2 := []) (k2 := nilBlk.k) (by rw [ey]; exact nilRow h) (.inr rfl) (by simp) ?_
            · rw [hkill]
              refine pushed (B := .ty T []) rfl hr.2.2.symm ⟨.inr (Nat.eq_of_beq_eq_true hr.1).symm, by simp [EVss]⟩ rfl ?_
              rw [← hr.2.1]
              simp only [EV, h.nx, newB, newL, List.append_nil, List.length_nil, Nat.add_zero]
              exact ⟨Nat.lt_succ_self _, True.intro⟩
        | ty T ys =>
          simp only [Prod.mk.injEq, Bool.and_eq_true, decide_eq_true_eq] at hr
          obtain ⟨⟨k1, k2⟩, h3, h4⟩ := hr
          have k1 := Nat.eq_of_beq_eq_true k1
          obtain ⟨rows, k', q1, q2, q3⟩ := cnt_ty h hcy e2
          have hl := q2.length
          simp only [List.length_map] at hl
          refine app_ev (fun _ => trivial) ex' r1 (.inr rfl) q1 ?_ (by simp only [List.length_nil]; rw [hl, Nat.zero_add]; exact k2) ?_
          · rcases q3 with q3 | ⟨q3, _⟩
            · exact .inl (q3.trans k1)
            · right; rw [q3] at hl; exact List.eq_nil_of_length_eq_zero hl
          · rw [hkill]
            refine pushed (B := .ty T ys) rfl h4.symm ⟨.inr k1.symm, by simpa using EVss.mono Mp.le_add _ _ q2⟩ rfl ?_
            rw [← h3]
            simp only [EV, h.nx, newB, newL, List.length_nil, List.nil_append, Nat.zero_add]
            exact ⟨Nat.lt_succ_self _, True.intro⟩
        | un k2' ys =>
          simp only [Prod.mk.injEq, Bool.and_eq_true, decide_eq_true_eq] at hr
          obtain ⟨⟨k1, k2⟩, h3, h4⟩ := hr
          have k1 := Nat.eq_of_beq_eq_true k1
          obtain ⟨rows, q1, q2⟩ := cnt_un h hcy e2
          have hl := q2.length
          refine app_ev (fun _ => trivial) ex' r1 (.inr rfl) q1 (.inl k1) (by simp only [List.length_nil]; rw [hl, Nat.zero_add]; exact k2) ?_
          rw [hkill]
          refine pushed (B := .un k ys) rfl h4.symm ⟨rfl, by simpa using EVss.mono Mp.le_add _ _ q2⟩ rfl ?_
          rw [← h3]
          simp only [EV, h.nx, newB, newL, List.length_nil, List.nil_append, Nat.zero_add]
          exact ⟨Nat.lt_succ_self _, True.intro⟩
      | ty T xs =>
        have hd := idOf_alive hi (by rw [hcx]; simp) (by rw [hcx]; simp)
        obtain ⟨rows, k', p1, p2, p3⟩ := cnt_ty h hcx e1
        have hlx := p2.length
        simp only [List.length_map] at hlx
        rw [ex] at p1
        have hk1 : T.size = k → k' = k ∨ m.φ id = 0 := fun e => by
          rcases p3 with p3 | ⟨_, j, p3⟩
          · exact .inl (p3.trans e)
          · right
            rw [ex] at p3
            simp only [AV.l.injEq] at p3
            exact p3.1
        cases cy with
        | bad => simp at hr
        | nil =>
          have ey := cnt_nil h hcy e2
          simp only [Prod.mk.injEq, Bool.and_eq_true, decide_eq_true_eq] at hr
          obtain ⟨⟨k1, k2⟩, h3, h4⟩ := hr
          have k1 := Nat.eq_of_beq_eq_true k1
          refine app_ev (fun _ => trivial) ex p1 (hk1 k1) (r2 := []) (k2 := nilBlk.k) (by rw [ey]; exact nilRow h) (.inr rfl) (by simp only [List.length_nil]; rw [hlx]; exact k2) ?_
          · refine killed (B := .ty T xs) hd h4.symm ⟨.inr k1.symm, by simpa using EVss.mono Mp.le_add _ _ p2⟩ rfl ?_
            rw [← h3]
            simp only [EV, h.nx, newB, newL, List.length_nil, List.append_nil, Nat.add_zero]
            exact ⟨Nat.lt_succ_self _, True.intro⟩
        | un k2' ys => simp at hr
        | ty U ys =>
          simp only [Prod.mk.injEq, Bool.and_eq_true, decide_eq_true_eq] at hr
          obtain ⟨⟨k0, k1, k2⟩, h3, h4⟩ := hr
          have hU := GT.eq_of_beq _ _ k0
          subst hU
          rw [castL_self] at h4
          have k1 := Nat.eq_of_beq_eq_true k1
          obtain ⟨rows', k'', q1, q2, q3⟩ := cnt_ty h hcy e2
          have hl := q2.length
          simp only [List.length_map] at hl
          refine app_ev (fun _ => trivial) ex p1 (hk1 k1) q1 ?_ (by rw [hl, hlx]; exact k2) ?_
          · rcases q3 with q3 | ⟨q3, _⟩
            · exact .inl (q3.trans k1)
            · right; rw [q3] at hl; exact List.eq_nil_of_length_eq_zero hl
          · refine killed (B := .ty U (xs ++ ys)) hd h4.symm ⟨.inr k1.symm, ?_⟩ rfl ?_
            · rw [List.map_append]
              exact EVss.mono Mp.le_add _ _ (p2.append q2)
            · rw [← h3]
              simp only [EV, h.nx, newB, newL, List.length_append]
              exact ⟨Nat.lt_succ_self _, True.intro⟩
      | un k1' xs =>
        have hd := idOf_alive hi (by rw [hcx]; simp) (by rw [hcx]; simp)
        obtain ⟨rows, p1, p2⟩ := cnt_un h hcx e1
        have hlx := p2.length
        rw [ex] at p1
        cases cy with
        | bad => simp at hr
        | nil => simp at hr
        | ty U ys => simp at hr
        | un k2' ys =>
          simp only [Prod.mk.injEq, Bool.and_eq_true, decide_eq_true_eq] at hr
          obtain ⟨⟨k1, k2, k3⟩, h3, h4⟩ := hr
          have k1 := Nat.eq_of_beq_eq_true k1
          have k2 := Nat.eq_of_beq_eq_true k2
          obtain ⟨rows', q1, q2⟩ := cnt_un h hcy e2
          have hl := q2.length
          refine app_ev (fun _ => trivial) ex p1 (.inl k1) q1 (.inl k2) (by rw [hl, hlx]; exact k3) ?_
          refine killed (B := .un k (xs ++ ys)) hd h4.symm ⟨rfl, EVss.mono Mp.le_add _ _ (p2.append q2)⟩ rfl ?_
          rw [← h3]
          simp only [EV, h.nx, newB, newL, List.length_append]
          exact ⟨Nat.lt_succ_self _, True.intro⟩
  | apps x y => simp [rop, Tr.bad] at hr
  | cpy k x y => simp [rop, Tr.bad] at hr
  | len str x =>
    simp only [rop, Tr.bad] at hr
    simp only [aop]
    have e1 := ev_ev h hf x
    generalize fr.ev x = vx at hr e1
    cases vx <;> try simp only [Prod.mk.injEq, Bool.false_eq_true, false_and] at hr
    case w id =>
      simp only [EV] at e1
      rw [e1.2]
      simp only
      cases hg : H.get id with
      | dead => rw [hg] at hr; simp at hr
      | ty T xs =>
        rw [hg] at hr
        simp only [Prod.mk.injEq, Bool.not_eq_true'] at hr
        obtain ⟨a1, B, a2, a3, a4, a5⟩ := h.blk id (by rw [hg]; simp)
        rw [hg] at a3
        have hl := a3.2.length
        simp only [List.length_map] at hl
        refine ⟨hr.1, done hr.2.2.symm ?_⟩
        rw [← hr.2.1]; simp only [EV]; rw [show m.ln id = xs.length by omega]
      | un k rows =>
        rw [hg] at hr
        simp only [Prod.mk.injEq, Bool.not_eq_true'] at hr
        obtain ⟨a1, B, a2, a3, a4, a5⟩ := h.blk id (by rw [hg]; simp)
        rw [hg] at a3
        have hl := a3.2.length
        refine ⟨hr.1, done hr.2.2.symm ?_⟩
        rw [← hr.2.1]; simp only [EV]; rw [show m.ln id = rows.length by omega]
    case l id lo n =>
      simp only [EV] at e1
      rw [e1.2]
      simp only [Prod.mk.injEq, Bool.not_eq_true'] at hr ⊢
      refine ⟨hr.1, done hr.2.2.symm ?_⟩
      rw [← hr.2.1]; simp only [EV]
    case q T xs =>
      simp only [Bool.not_eq_true'] at hr
      simp only [EV] at e1
      rcases e1 with e1 | ⟨rfl, e1⟩
      · rw [e1]
        simp only [List.length_map]
        refine ⟨hr.1, done hr.2.2.symm ?_⟩
        rw [← hr.2.1]; simp only [EV]
      · rw [e1]
        simp only
        refine ⟨hr.1, done hr.2.2.symm ?_⟩
        rw [← hr.2.1]; simp [EV]
    case s x =>
      simp only [EV] at e1
      rw [e1]
      simp only
      refine ⟨hr.1, done hr.2.2.symm ?_⟩
      rw [← hr.2.1]; simp only [EV]
  | mm mx xs =>
    simp only [rop, Prod.mk.injEq] at hr
    simp only [aop]
    obtain ⟨a, ha, hv⟩ := mm1_ev (Prod.ext hr.1 hr.2.1) (evs_ev h hf xs)
    rw [ha]
    simp only
    exact done hr.2.2.symm hv
  | mif t x =>
    simp only [rop, Prod.mk.injEq, true_and] at hr
    simp only [aop]
    refine done hr.2.symm ?_
    rw [← hr.1]; simp only [EV]; exact ⟨_, rfl, ev_ev h hf x⟩
  | no => simp [rop, Tr.bad] at hr
/-- Operations that leave the memory alone. -/
theorem rop_calm {τ : Option GT} {o : AOp} (hc : calmO o = true) (hp : ∀ g, O.isP g = true) : (rop O τ o fr H).2.2 = H := by
  cases o <;> simp only [calmO, Bool.false_eq_true] at hc <;> simp only [rop, Tr.bad]
  case call f args =>
    split
    · rw [hp]
      simp only [cond_true]
      cases V.ideds _ <;> rfl
    · rfl
  all_goals (repeat' split) <;> rfl
end
end Go.Proofs.Ytamnlngihccgiaa.AM
