/- Every operation of the run is one of the abstract machine. -/
import Derived.Test.YtamnlngihccgiaaRc
namespace Go.Proofs.Ytamnlngihccgiaa.AM
set_option linter.all false
open Go
set_option linter.constructorNameAsVariable false
set_option linter.unusedSimpArgs false
section
variable {P : Program} {m : Mp} {H : Hp} {H1 : AH} {H0 : AH} {In : Nat → Prop} {fr : Fr2} {fr1 : Fr}

/-- What may follow an operation. -/
abbrev Next (H0 : AH) (In : Nat → Prop) (m : Mp) (v : V) (H' : Hp) (K : AV → AH → Prop) : Prop :=
  ∀ m' v1 H1', m.Le m' → EV m' v v1 → EH m' H' H1' → EX H0 In m' H1' → K v1 H1'

theorem Rows1.appx {a : AV} {rows : List (List AV)} {k : Nat} (h : Rows1 m H1 a rows k) {id i n : Nat} (e : a = .l id i n) : ∃ B, H1.m id = some B ∧ i + n ≤ B.rows.length ∧ B.own = true ∧ rows = (B.rows.drop i).take n ∧ k = B.k ∧ rows.length = n := by
  cases h with
  | l id' i' n' B h1 h2 ho =>
    simp only [AV.l.injEq] at e
    obtain ⟨rfl, rfl, rfl⟩ := e
    exact ⟨B, h1, h2, ho, rfl, rfl, by simp; omega⟩
  | q => cases e

/-- 'append' in the abstract machine, told of rows. -/
theorem app_ev {pw rd : Nat → Prop} (hpw : ∀ id, pw id) {by_ k : Nat} {x y : Od} {K : AV → AH → Prop} {id i n : Nat} {r1 r2 : List (List AV)} {k1 k2 : Nat} (hx : fr1.ev x = .l id i n) (h1 : Rows1 m H1 (.l id i n) r1 k1) (hk1 : k1 = k ∨ id = 0)
    (h2 : Rows1 m H1 (fr1.ev y) r2 k2) (hk2 : k2 = k ∨ r2 = []) (hs : (r1.length + r2.length) * by_ ≤ 70368744177664)
    (hK : K (.l H1.nx 0 (r1.length + r2.length)) ((H1.kill id).push ⟨k, true, r1 ++ r2⟩)) : aop (env P) pw rd (.app by_ k x y) fr1 H1 K := by
  obtain ⟨B, b1, b2, b3, b4, b5, b6⟩ := h1.appx rfl
  generalize hy : fr1.ev y = ay at h2
  cases h2 with
  | l id' i' n' B' h1' h2' ho' =>
    simp only [aop, hx, hy, AH.get, b1, h1']
    have e2 : ((B'.rows.drop i').take n').length = n' := by simp; omega
    rw [e2] at hs hK
    rw [b6] at hs hK
    rw [b4] at hK
    refine ⟨?_, ?_, b2, h2', hs, b3, .inr (hpw id), hK⟩
    · rcases hk2 with h | h
      · exact .inr h
      · left; rw [h] at e2; exact e2.symm
    · rcases hk1 with h | h
      · exact .inr (b5.symm.trans h)
      · exact .inl h
  | q rows k' hr =>
    simp only [aop, hx, hy, AH.get, b1]
    rw [b6] at hs hK
    rw [b4] at hK
    refine ⟨?_, ?_, b2, hs, b3, .inr (hpw id), hK⟩
    · intro r hr'
      rcases hk2 with h | h
      · exact ⟨(hr r hr').1.trans h, (hr r hr').2⟩
      · rw [h] at hr'; cases hr'
    · rcases hk1 with h | h
      · exact .inr (b5.symm.trans h)
      · exact .inl h

theorem mkOk_iff {by_ : Nat} {v : Int} (h : mkOk by_ v = true) : 0 ≤ v ∧ v < 9223372036854775808 ∧ by_ * v ≤ 281474976710656 := by
  simp only [mkOk, ile_eq, ilt_eq, Bool.and_eq_true, decide_eq_true_eq] at h
  exact h
theorem inb_iff {v : Int} {n : Nat} (h : inb v n = true) : 0 ≤ v ∧ v < n ∧ v.toNat < n := by
  simp only [inb, ile_eq, ilt_eq, Bool.and_eq_true, decide_eq_true_eq] at h
  exact ⟨h.1, h.2, by omega⟩
theorem getD_get {α : Type} {xs : List α} {i : Nat} {d : α} (h : i < xs.length) : xs[i]? = some (xs.getD i d) := by
  rw [List.getD_eq_getElem?_getD, List.getElem?_eq_getElem h]; rfl
theorem slOk_iff {lo hi : Option Od} {l h n : Int} (hs : slOk lo hi l h n = true) (hl : lo = none → l = 0) (hh : hi = none → h = n) (hn : 0 ≤ n) : 0 ≤ l ∧ l ≤ h ∧ h ≤ n := by
  unfold slOk at hs
  cases lo <;> cases hi <;> simp only [ile_eq, Bool.and_eq_true, decide_eq_true_eq, reduceCtorEq, false_implies, true_implies] at hs hl hh <;> omega
theorem slN_eq {lo hi : Option Od} {l h : Int} (hl : lo = none → l = 0) : slN lo hi l h = h.toNat - l.toNat := by
  cases lo with
  | none => simp only [true_implies] at hl; subst hl; simp [slN]
  | some x => simp [slN]
theorem bnd2_ev (h : EH m H H1) (hf : FrE m fr fr1) {o : Option Od} {d : Nat} {x : Int} (hb : bnd2 fr o (d : Int) = (true, x)) : bnd fr1 o d = some x ∧ (o = none → x = d) := by
  unfold bnd2 at hb
  cases o with
  | none => simp only [Prod.mk.injEq, true_and] at hb; subst hb; simp [bnd]
  | some y =>
    simp only at hb
    have e := ev_ev h hf y
    generalize hg : fr.ev y = g at hb e
    cases g <;> simp only [Prod.mk.injEq, true_and, Bool.false_eq_true, false_and] at hb
    subst hb
    simp only [EV] at e
    simp [bnd, e]

theorem gtOf_cells {v : V} {T : GT} {x : T.den} (h : gtOf v = some ⟨T, x⟩) : cells T x = [v] := by
  cases v <;> simp only [gtOf, reduceCtorEq, Option.some.injEq] at h <;> (cases h; simp only [cells])
theorem pvss_cells {S : Nat → Prop} (hn : H1.m 0 = some nilBlk) {T : GT} : ∀ {xs : List T.den} {rows : List (List AV)}, EVss m (xs.map (cells T)) rows → PVss H1 S (xs.map (cellsA T)) rows
  | [], rows, h => by simp only [List.map_nil] at h ⊢; rw [h.inv0]; simp only [PVss]
  | x :: r, rows, h => by
    simp only [List.map_cons] at h ⊢
    obtain ⟨a, q, rfl, h1, h2⟩ := h.inv
    simp only [PVss]
    exact ⟨a, q, rfl, cells_pv hn T x _ h1, pvss_cells hn h2⟩
mutual
theorem frz_ev {S : Nat → Prop} (h : EH m H H1) (hS : ∀ id, H.get id ≠ .dead → m.φ id = 0 ∨ S (m.φ id)) : ∀ (v : V) (a : AV), EV m v a → ∃ d, EV m (frz H v) d ∧ PV H1 S d a
  | .w id, a, he => by
    simp only [frz]
    split
    · rename_i T xs hg
      obtain ⟨a1, B, a2, a3, a4, a5⟩ := h.blk id (by rw [hg]; simp)
      rw [hg] at a3
      simp only [EV] at he
      obtain ⟨_, rfl⟩ := he
      refine ⟨.q (xs.map (cellsA T)), by simp only [EV, true_or], ?_⟩
      simp only [PV]
      refine .inr ⟨_, _, _, B, rfl, hS id (by rw [hg]; simp), a2, by omega, ?_⟩
      rw [a5]; simp only [List.drop_zero, List.take_length]
      exact pvss_cells h.nil a3.2
    · exact ⟨.u, by simp only [EV], by simp only [PV]⟩
  | .l id lo n, a, he => by
    simp only [frz]
    cases e : Nat.beq id 0 with
    | true =>
      have := Nat.eq_of_beq_eq_true e
      subst this
      simp only [cond_true]
      simp only [EV] at he
      obtain ⟨⟨_, hb⟩, rfl⟩ := he
      rw [h.zl] at hb
      have e1 : lo = 0 := by omega
      have e2 : n = 0 := by omega
      subst e1; subst e2
      refine ⟨.l 0 0 0, ?_, ?_⟩
      · simp only [EV, h.zl, h.z]; exact ⟨⟨h.pos, Nat.le_refl _⟩, True.intro⟩
      · rw [h.z]; exact PV.refl _
    | false =>
      simp only [cond_false]
      split
      · rename_i T xs hg
        obtain ⟨a1, B, a2, a3, a4, a5⟩ := h.blk id (by rw [hg]; simp)
        rw [hg] at a3
        simp only [EV] at he
        obtain ⟨⟨_, hb⟩, rfl⟩ := he
        refine ⟨.q (((xs.drop lo).take n).map (cellsA T)), by simp only [EV, true_or], ?_⟩
        simp only [PV]
        refine .inr ⟨_, _, _, B, rfl, hS id (by rw [hg]; simp), a2, by omega, ?_⟩
        refine pvss_cells (m := m) h.nil ?_
        rw [List.map_take, List.map_drop]
        exact (a3.2.drop lo).take n
      · exact ⟨.u, by simp only [EV], by simp only [PV]⟩
  | .p id i j, a, he => by
    simp only [frz]
    split
    · rename_i T xs hg
      obtain ⟨a1, B, a2, a3, a4, a5⟩ := h.blk id (by rw [hg]; simp)
      rw [hg] at a3
      simp only [EV] at he
      obtain ⟨⟨_, hb⟩, rfl⟩ := he
      have hlen := a3.2.length
      simp only [List.length_map] at hlen
      obtain ⟨row, hr, hre⟩ := a3.2.get (i := i) (Cps.map_cells (getD_get (d := T.dflt) (by omega)))
      have hnz : m.φ id ≠ 0 := fun e => by have := h.ln0 (by rw [hg]; simp) e; omega
      refine ⟨.pq (cellsA T (xs.getD i T.dflt)) j, by simp only [EV], ?_⟩
      simp only [PV]
      exact .inr ⟨_, _, B, row, rfl, (hS id (by rw [hg]; simp)).resolve_left hnz, a2, hr, cells_pv h.nil _ _ _ hre⟩
    · rename_i k v hg
      split
      · rename_i T x hgt
        obtain ⟨a1, B, a2, a3, a4, a5⟩ := h.blk id (by rw [hg]; simp)
        rw [hg] at a3
        simp only [EV] at he
        obtain ⟨⟨_, hb⟩, rfl⟩ := he
        have hlen := a3.2.length
        simp only [List.length_cons, List.length_nil] at hlen
        have hi : i = 0 := by omega
        subst hi
        obtain ⟨row, hr, hre⟩ := a3.2.get (i := 0) rfl
        have hnz : m.φ id ≠ 0 := fun e => by have := h.ln0 (by rw [hg]; simp) e; omega
        refine ⟨.pq (cellsA T x) j, by simp only [EV], ?_⟩
        simp only [PV]
        refine .inr ⟨_, _, B, row, rfl, (hS id (by rw [hg]; simp)).resolve_left hnz, a2, hr, cells_pv (m := m) h.nil _ _ _ ?_⟩
        rw [gtOf_cells hgt]; exact hre
      · exact ⟨.u, by simp only [EV], by simp only [PV]⟩
    · exact ⟨.u, by simp only [EV], by simp only [PV]⟩
  | .a cs, a, he => by
    simp only [frz]
    simp only [EV] at he
    obtain ⟨cs', rfl, he⟩ := he
    obtain ⟨ds, h1, h2⟩ := frzs_ev h hS cs cs' he
    exact ⟨.a ds, by simp only [EV]; exact ⟨_, rfl, h1⟩, by simp only [PV]; exact ⟨_, rfl, h2⟩⟩
  | .t cs, a, he => by
    simp only [frz]
    simp only [EV] at he
    obtain ⟨cs', rfl, he⟩ := he
    obtain ⟨ds, h1, h2⟩ := frzs_ev h hS cs cs' he
    exact ⟨.t ds, by simp only [EV]; exact ⟨_, rfl, h1⟩, by simp only [PV]; exact ⟨_, rfl, h2⟩⟩
  | .f g cs, a, he => by
    simp only [frz]
    simp only [EV] at he
    obtain ⟨cs', rfl, he⟩ := he
    obtain ⟨ds, h1, h2⟩ := frzs_ev h hS cs cs' he
    exact ⟨.f g ds, by simp only [EV]; exact ⟨_, rfl, h1⟩, by simp only [PV]; exact ⟨_, rfl, h2⟩⟩
  | .b x, a, he => ⟨a, by simpa only [frz] using he, PV.refl _⟩
  | .n k x, a, he => ⟨a, by simpa only [frz] using he, PV.refl _⟩
  | .s x, a, he => ⟨a, by simpa only [frz] using he, PV.refl _⟩
  | .pn, a, he => ⟨a, by simpa only [frz] using he, PV.refl _⟩
  | .q T xs, a, he => ⟨a, by simpa only [frz] using he, PV.refl _⟩
  | .pq T x j, a, he => ⟨a, by simpa only [frz] using he, PV.refl _⟩
  | .en, a, he => ⟨a, by simpa only [frz] using he, PV.refl _⟩
  | .e ty v, a, he => ⟨a, by simpa only [frz] using he, PV.refl _⟩
  | .ps x, a, he => ⟨a, by simpa only [frz] using he, PV.refl _⟩
  | .pps x j, a, he => ⟨a, by simpa only [frz] using he, PV.refl _⟩
  | .u, a, he => ⟨a, by simpa only [frz] using he, PV.refl _⟩
theorem frzs_ev {S : Nat → Prop} (h : EH m H H1) (hS : ∀ id, H.get id ≠ .dead → m.φ id = 0 ∨ S (m.φ id)) : ∀ (vs : List V) (as : List AV), EVs m vs as → ∃ ds, EVs m (frzs H vs) ds ∧ PVs H1 S ds as
  | [], as, he => by rw [he.inv0]; exact ⟨[], by simp only [frzs, EVs], by simp only [PVs]⟩
  | v :: r, as, he => by
    obtain ⟨a, q, rfl, h1, h2⟩ := he.inv
    obtain ⟨d, e1, e2⟩ := frz_ev h hS v a h1
    obtain ⟨ds, e3, e4⟩ := frzs_ev h hS r q h2
    exact ⟨d :: ds, by simp only [frzs]; exact EVs.cons e1 e3, by simp only [PVs]; exact ⟨_, _, rfl, e2, e4⟩⟩
end

/-- A value without numbers of blocks. -/
theorem scal_ev {v : V} {d : AV} (h : EV m v d) (hs : v.scal = true) : d.scal = true ∧ ∀ m' : Mp, EV m' v d := by
  cases v <;> simp only [V.scal, Bool.false_eq_true] at hs <;> simp only [EV] at h <;> subst h <;> exact ⟨rfl, fun m' => by simp only [EV]⟩

/-- Views speak of rows alone. -/
def SameRows (H H' : AH) : Prop := ∀ j B, H.m j = some B → ∃ B', H'.m j = some B' ∧ B'.rows = B.rows
mutual
theorem PV.rows {H H' : AH} {S : Nat → Prop} (hs : SameRows H H') : ∀ (d v : AV), PV H S d v → PV H' S d v
  | .q rows, v, h => by
    simp only [PV] at h ⊢
    rcases h with ⟨rows', e, h⟩ | ⟨id, i, n, B, e, h1, h2, h3, h4⟩
    · exact .inl ⟨rows', e, PVss.rows hs _ _ h⟩
    · obtain ⟨B', h5, h6⟩ := hs id B h2
      exact .inr ⟨id, i, n, B', e, h1, h5, by rw [h6]; exact h3, by rw [h6]; exact PVss.rows hs _ _ h4⟩
  | .pq r j, v, h => by
    simp only [PV] at h ⊢
    rcases h with ⟨r', e, h⟩ | ⟨id, i, B, r', e, h1, h2, h3, h4⟩
    · exact .inl ⟨r', e, PVs.rows hs _ _ h⟩
    · obtain ⟨B', h5, h6⟩ := hs id B h2
      exact .inr ⟨id, i, B', r', e, h1, h5, by rw [h6]; exact h3, PVs.rows hs _ _ h4⟩
  | .a cs, v, h => by
    simp only [PV] at h ⊢
    obtain ⟨cs', e, h⟩ := h
    exact ⟨cs', e, PVs.rows hs _ _ h⟩
  | .t cs, v, h => by
    simp only [PV] at h ⊢
    obtain ⟨cs', e, h⟩ := h
    exact ⟨cs', e, PVs.rows hs _ _ h⟩
  | .f g cs, v, h => by
    simp only [PV] at h ⊢
    obtain ⟨cs', e, h⟩ := h
    exact ⟨cs', e, PVs.rows hs _ _ h⟩
  | .e ty x, v, h => by
    simp only [PV] at h ⊢
    obtain ⟨x', e, h⟩ := h
    exact ⟨x', e, PV.rows hs _ _ h⟩
  | .b _, v, h => by simpa only [PV] using h
  | .n .., v, h => by simpa only [PV] using h
  | .s _, v, h => by simpa only [PV] using h
  | .pn, v, h => by simpa only [PV] using h
  | .p .., v, h => by simpa only [PV] using h
  | .l .., v, h => by simpa only [PV] using h
  | .en, v, h => by simpa only [PV] using h
  | .u, v, h => by simp only [PV]
theorem PVs.rows {H H' : AH} {S : Nat → Prop} (hs : SameRows H H') : ∀ (ds vs : List AV), PVs H S ds vs → PVs H' S ds vs
  | [], vs, h => by simpa only [PVs] using h
  | d :: ds, vs, h => by
    simp only [PVs] at h ⊢
    obtain ⟨v, r, e, h1, h2⟩ := h
    exact ⟨v, r, e, PV.rows hs _ _ h1, PVs.rows hs _ _ h2⟩
theorem PVss.rows {H H' : AH} {S : Nat → Prop} (hs : SameRows H H') : ∀ (ds vs : List (List AV)), PVss H S ds vs → PVss H' S ds vs
  | [], vs, h => by simpa only [PVss] using h
  | d :: ds, vs, h => by
    simp only [PVss] at h ⊢
    obtain ⟨v, r, e, h1, h2⟩ := h
    exact ⟨v, r, e, PVs.rows hs _ _ h1, PVss.rows hs _ _ h2⟩
end
theorem sameRows_lock (M : List Nat) : SameRows H1 (H1.lock M) := by
  intro j B hB
  simp only [AH.lock]
  split
  · exact ⟨B, hB, rfl⟩
  · exact ⟨{ B with own := false }, by rw [hB]; rfl, rfl⟩

/-- A call of a pure function. -/
theorem call_ev {O : Orac} (hO : OrcOk P O) (h : EH m H H1) {g : FuncId} {vs : List V} {as : List AV} {v : V} (he : EVs m vs as) {K : AV → AH → Prop}
    (hv : (bif V.ideds vs then (match O.ct g (frzs H vs) with
          | (ok, v) => (v.scal && ok, v, H))
        else (match O.ct g vs with
          | (ok, v) => (ok, v, H)) : Tr) = (true, v, H)) (hK : ∀ a, EV m v a → K a H1) : (env P).ct g as (H1.lock []) fun r H' => K r (H1.back [] H') := by
  cases hi : V.ideds vs with
  | false =>
    rw [hi] at hv
    simp only [cond_false, Prod.mk.injEq, and_true] at hv
    obtain ⟨d, h1, h2⟩ := hO.ct g vs v (Prod.ext hv.1 hv.2) m as h.z he
    refine ⟨h1.1, (h1.2 (H1.lock [])).mono fun u H' ⟨e1, e2⟩ => ?_⟩
    subst e1; subst e2
    rw [back_lock]
    exact hK _ (h2 m)
  | true =>
    rw [hi] at hv
    simp only [cond_true, Prod.mk.injEq, and_true, Bool.and_eq_true] at hv
    obtain ⟨⟨hs, hv1⟩, hv2⟩ := hv
    rw [hv2] at hs
    obtain ⟨ds, e1, e2⟩ := frzs_ev (S := fun _ => True) h (fun _ _ => .inr trivial) vs as he
    obtain ⟨d, h1, h2⟩ := hO.ct g _ v (Prod.ext hv1 hv2) m ds h.z e1
    refine ⟨h1.1, (Ct.borrow (scal_ev (h2 m) hs).1 (PVs.rows (sameRows_lock []) _ _ e2) (h1.2 (H1.lock [])) ?_).mono fun u H' ⟨e1, e2⟩ => ?_⟩
    · intro id B hB ho
      simp only [AH.lock, List.not_mem_nil, or_false] at hB
      split at hB
      · assumption
      · simp only [Option.map_eq_some_iff] at hB
        obtain ⟨C, _, rfl⟩ := hB
        simp at ho
    · subst e1; subst e2
      rw [back_lock]
      exact hK _ (h2 m)
end
end Go.Proofs.Ytamnlngihccgiaa.AM
