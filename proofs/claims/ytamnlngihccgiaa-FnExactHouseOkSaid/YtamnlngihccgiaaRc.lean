/- Memories of the run stand for those of the abstract machine; every operation keeps that. -/
import Derived.Test.YtamnlngihccgiaaRb
namespace Go.Proofs.Ytamnlngihccgiaa.AM
set_option linter.all false
open Go
set_option linter.constructorNameAsVariable false
set_option linter.unusedSimpArgs false

def BE (m : Mp) (id : Nat) : Blk2 → Blk → Prop
  | .un k rows, B => B.k = k ∧ EVss m rows B.rows
  | .ty T xs, B => (m.φ id = 0 ∨ B.k = T.size) ∧ EVss m (xs.map (cells T)) B.rows
  | .dead, _ => False
def BR (m : Mp) (H1 : AH) (id : Nat) (B : Blk2) : Prop := id < m.nx ∧ ∃ B1, H1.m (m.φ id) = some B1 ∧ BE m id B B1 ∧ B1.own = true ∧ m.ln id = B1.rows.length
structure EH (m : Mp) (H : Hp) (H1 : AH) : Prop where
  nx : H.nx = m.nx
  pos : 0 < m.nx
  z : m.φ 0 = 0
  zl : m.ln 0 = 0
  zd : H.get 0 = .dead
  nil : H1.m 0 = some nilBlk
  inj : ∀ i j, i < m.nx → j < m.nx → m.φ i = m.φ j → i = j ∨ m.φ i = 0
  bd : ∀ i, i < m.nx → m.φ i < H1.nx
  blk : ∀ id, H.get id ≠ .dead → BR m H1 id (H.get id)
/-- What lies outside is as it was. -/
structure EX (H0 : AH) (In : Nat → Prop) (m : Mp) (H1 : AH) : Prop where
  nx : H0.nx ≤ H1.nx
  out : ∀ j, j < H0.nx → ¬ In j → H1.m j = H0.m j
  new : ∀ id, id < m.nx → H0.nx ≤ m.φ id ∨ In (m.φ id) ∨ m.φ id = 0

/-- What is known of callees holds. -/
structure OrcOk (P : Program) (O : Orac) : Prop where
  ct : ∀ g vs v, O.ct g vs = (true, v) → ∀ (m : Mp) vs1, m.φ 0 = 0 → EVs m vs vs1 → ∃ d, Pf P g vs1 d ∧ ∀ m' : Mp, EV m' v d
  eq : ∀ ty, O.eq ty ≠ [] → EqOk P ty (O.eq ty) ∧ ∀ k ∈ O.eq ty, k < 99
  mo : ∀ g vs H v H', O.mo g vs H = (true, v, H') → ∀ (m : Mp) H1 vs1 H0 In, EVs m vs vs1 → EH m H H1 → EX H0 In m H1 → ∀ K : AV → AH → Prop,
    (∀ m' v1 H1', m.Le m' → EV m' v v1 → EH m' H' H1' → EX H0 In m' H1' → K v1 H1') → (env P).ct g vs1 (H1.lock []) fun r H' => K r (H1.back [] H')
  mt : ∀ g vs H v H', O.mt g vs H = (true, v, H') → ∀ (m : Mp) H1 vs1 H0 In, EVs m vs vs1 → EH m H H1 → EX H0 In m H1 → ∀ K : AV → AH → Prop,
    (∀ m' v1 H1', m.Le m' → EV m' v v1 → EH m' H' H1' → EX H0 In m' H1' → K v1 H1') → ∃ M, (env P).ct g vs1 (H1.lock M) fun r H' => K r (H1.back M H')

section
variable {m : Mp} {H : Hp} {H1 : AH} {H0 : AH} {In : Nat → Prop}

theorem get_push2 {B : Blk2} {id : Nat} : (H.push B).get id = if id = H.nx then B else H.get id := by
  simp only [Hp.get, Hp.push, Hp.getL]
  by_cases h : id = H.nx
  · subst h; simp
  · rw [if_neg h]
    have : Nat.beq H.nx id = false := by
      cases e : Nat.beq H.nx id with
      | false => rfl
      | true => exact absurd (Nat.eq_of_beq_eq_true e).symm h
    simp [this]
theorem get_put2 {B : Blk2} {id j : Nat} : (H.put id B).get j = if j = id then B else H.get j := by
  simp only [Hp.get, Hp.put, Hp.getL]
  by_cases h : j = id
  · subst h; simp
  · rw [if_neg h]
    have : Nat.beq id j = false := by
      cases e : Nat.beq id j with
      | false => rfl
      | true => exact absurd (Nat.eq_of_beq_eq_true e).symm h
    simp [this]
theorem get_kill2 {id j : Nat} (h0 : H.get 0 = .dead) : (H.kill id).get j = if j = id then .dead else H.get j := by
  unfold Hp.kill
  cases e : Nat.beq id 0 with
  | true =>
    have := Nat.eq_of_beq_eq_true e
    subst this
    simp only [cond_true]
    split
    · rename_i h; subst h; exact h0
    · rfl
  | false =>
    simp only [cond_false]
    exact get_put2 (H := H)
theorem nx_kill2 {id : Nat} : (H.kill id).nx = H.nx := by
  unfold Hp.kill
  cases Nat.beq id 0 <;> rfl

/-- One block more. -/
def Mp.add (m : Mp) (b len : Nat) : Mp := ⟨fun i => if i = m.nx then b else m.φ i, fun i => if i = m.nx then len else m.ln i, m.nx + 1⟩
theorem Mp.le_add {b len : Nat} : m.Le (m.add b len) :=
  ⟨Nat.le_succ _, fun i hi => by simp only [Mp.add]; rw [if_neg (by omega)], fun i hi => by simp only [Mp.add]; rw [if_neg (by omega)]⟩

theorem BE.mono {m' : Mp} (hm : m.Le m') {id : Nat} (hid : id < m.nx) {B : Blk2} {B1 : Blk} (h : BE m id B B1) : BE m' id B B1 := by
  cases B with
  | un k rows => exact ⟨h.1, EVss.mono hm _ _ h.2⟩
  | ty T xs => exact ⟨h.1.imp (fun h => (hm.φ id hid).trans h) (fun h => h), EVss.mono hm _ _ h.2⟩
  | dead => exact h
theorem BE.mono' {m' : Mp} (hm : m.Le m') {id : Nat} (hφ : m'.φ id = m.φ id) {B : Blk2} {B1 : Blk} (h : BE m id B B1) : BE m' id B B1 := by
  cases B with
  | un k rows => exact ⟨h.1, EVss.mono hm _ _ h.2⟩
  | ty T xs => exact ⟨h.1.imp (fun h => hφ.trans h) (fun h => h), EVss.mono hm _ _ h.2⟩
  | dead => exact h

theorem EH.push (h : EH m H H1) {B : Blk2} {B1 : Blk} (hB : BE (m.add H1.nx B1.rows.length) m.nx B B1) (ho : B1.own = true) : EH (m.add H1.nx B1.rows.length) (H.push B) (H1.push B1) := by
  have hle : m.Le (m.add H1.nx B1.rows.length) := Mp.le_add
  have h1 : 0 < H1.nx := by have := h.bd 0 h.pos; omega
  refine ⟨?_, ?_, ?_, ?_, ?_, ?_, ?_, ?_, ?_⟩
  · simp only [Hp.push, Mp.add, h.nx]
  · simp only [Mp.add]; omega
  · rw [hle.φ 0 h.pos]; exact h.z
  · rw [hle.ln 0 h.pos]; exact h.zl
  · rw [get_push2, if_neg (by rw [h.nx]; have := h.pos; omega)]; exact h.zd
  · simp only [AH.push]; rw [if_neg (by omega)]; exact h.nil
  · intro i j hi hj e
    simp only [Mp.add] at hi hj e ⊢
    by_cases h2 : i = m.nx <;> by_cases h3 : j = m.nx
    · left; omega
    · rw [if_pos h2, if_neg h3] at e
      have := h.bd j (by omega); omega
    · rw [if_neg h2, if_pos h3] at e
      have := h.bd i (by omega); omega
    · rw [if_neg h2, if_neg h3] at e
      rw [if_neg h2]
      exact h.inj i j (by omega) (by omega) e
  · intro i hi
    simp only [Mp.add, AH.push] at hi ⊢
    split
    · omega
    · have := h.bd i (by omega); omega
  · intro id hid
    rw [get_push2] at hid ⊢
    split at hid
    · rename_i e
      rw [if_pos e]
      rw [h.nx] at e
      subst e
      refine ⟨Nat.lt_succ_self _, B1, ?_, hB, ho, ?_⟩
      · simp only [Mp.add, AH.push, if_true]
      · simp only [Mp.add, if_true]
    · rename_i e
      rw [if_neg e]
      obtain ⟨a1, C, a2, a3, a4, a5⟩ := h.blk id hid
      refine ⟨Nat.lt_succ_of_lt a1, C, ?_, a3.mono hle a1, a4, ?_⟩
      · rw [hle.φ id a1]
        simp only [AH.push]
        rw [if_neg (by have := h.bd id a1; omega)]; exact a2
      · rw [hle.ln id a1]; exact a5
/-- A block that is not there yet is taken for the empty slice. -/
theorem EH.pushNil (h : EH m H H1) {T : GT} : EH (m.add 0 0) (H.push (.ty T [])) H1 := by
  have hle : m.Le (m.add 0 0) := Mp.le_add
  refine ⟨?_, ?_, ?_, ?_, ?_, h.nil, ?_, ?_, ?_⟩
  · simp only [Hp.push, Mp.add, h.nx]
  · simp only [Mp.add]; omega
  · rw [hle.φ 0 h.pos]; exact h.z
  · rw [hle.ln 0 h.pos]; exact h.zl
  · rw [get_push2, if_neg (by rw [h.nx]; have := h.pos; omega)]; exact h.zd
  · intro i j hi hj e
    simp only [Mp.add] at hi hj e ⊢
    by_cases h2 : i = m.nx <;> by_cases h3 : j = m.nx
    · left; omega
    · right; rw [if_pos h2]
    · right
      rw [if_neg h2, if_pos h3] at e
      rw [if_neg h2]; exact e
    · rw [if_neg h2, if_neg h3] at e
      rw [if_neg h2]
      exact h.inj i j (by omega) (by omega) e
  · intro i hi
    have h1 : 0 < H1.nx := by have := h.bd 0 h.pos; omega
    simp only [Mp.add] at hi ⊢
    split
    · exact h1
    · exact h.bd i (by omega)
  · intro id hid
    rw [get_push2] at hid ⊢
    split at hid
    · rename_i e
      rw [if_pos e]
      rw [h.nx] at e
      subst e
      refine ⟨Nat.lt_succ_self _, nilBlk, ?_, ⟨.inl ?_, ?_⟩, rfl, ?_⟩
      · simp only [Mp.add, if_true]; exact h.nil
      · simp only [Mp.add, if_true]
      · simp only [List.map_nil, EVss, nilBlk]
      · simp only [Mp.add, if_true, nilBlk, List.length_nil]
    · rename_i e
      rw [if_neg e]
      obtain ⟨a1, C, a2, a3, a4, a5⟩ := h.blk id hid
      exact ⟨Nat.lt_succ_of_lt a1, C, by rw [hle.φ id a1]; exact a2, a3.mono hle a1, a4, by rw [hle.ln id a1]; exact a5⟩
theorem EX.push (h : EX H0 In m H1) {B1 : Blk} {len : Nat} : EX H0 In (m.add H1.nx len) (H1.push B1) := by
  refine ⟨?_, ?_, ?_⟩
  · simp only [AH.push]; have := h.nx; omega
  · intro j hj hi
    have := h.nx
    simp only [AH.push]
    rw [if_neg (by omega)]; exact h.out j hj hi
  · intro id hid
    simp only [Mp.add] at hid ⊢
    split
    · exact .inl h.nx
    · exact h.new id (by omega)
theorem EX.pushNil (h : EX H0 In m H1) : EX H0 In (m.add 0 0) H1 := by
  refine ⟨h.nx, h.out, ?_⟩
  intro id hid
  simp only [Mp.add] at hid ⊢
  split
  · exact .inr (.inr rfl)
  · exact h.new id (by omega)

theorem EH.ln0 (h : EH m H H1) {id : Nat} (hid : H.get id ≠ .dead) (h0 : m.φ id = 0) : m.ln id = 0 := by
  obtain ⟨_, B, a2, _, _, a5⟩ := h.blk id hid
  rw [h0, h.nil] at a2
  simp only [Option.some.injEq] at a2
  rw [a5, ← a2]; rfl
theorem EH.put (h : EH m H H1) {id : Nat} (hid : H.get id ≠ .dead) (hz : m.φ id ≠ 0) {B : Blk2} {B1 : Blk} (hB : BE m id B B1) (ho : B1.own = true) (hl : m.ln id = B1.rows.length) :
    EH m (H.put id B) (H1.put (m.φ id) B1) := by
  have hid' := (h.blk id hid).1
  refine ⟨h.nx, h.pos, h.z, h.zl, ?_, ?_, h.inj, h.bd, ?_⟩
  · rw [get_put2, if_neg (fun e => hz (by rw [← e]; exact h.z))]; exact h.zd
  · simp only [AH.put]; rw [if_neg (fun e => hz e.1.symm)]; exact h.nil
  · intro j hj
    rw [get_put2] at hj ⊢
    split at hj
    · rename_i e
      rw [if_pos e]; subst e
      refine ⟨hid', B1, ?_, hB, ho, hl⟩
      simp [AH.put, h.bd j hid']
    · rename_i e
      rw [if_neg e]
      obtain ⟨a1, C, a2, a3, a4, a5⟩ := h.blk j hj
      refine ⟨a1, C, ?_, a3, a4, a5⟩
      simp only [AH.put]
      rw [if_neg]; exact a2
      rintro ⟨e2, _⟩
      rcases h.inj j id a1 hid' e2 with h3 | h3
      · exact e h3
      · exact hz (e2 ▸ h3)
theorem EX.put (h : EX H0 In m H1) {id : Nat} (hid : id < m.nx) (hz : m.φ id ≠ 0) {B1 : Blk} : EX H0 In m (H1.put (m.φ id) B1) := by
  refine ⟨h.nx, ?_, h.new⟩
  intro j hj hi
  simp only [AH.put]
  rw [if_neg]; exact h.out j hj hi
  rintro ⟨e, _⟩
  rcases h.new id hid with h1 | h1 | h1
  · omega
  · exact hi (e ▸ h1)
  · exact hz h1
theorem EH.kill (h : EH m H H1) {id : Nat} (hid : H.get id ≠ .dead) : EH m (H.kill id) (H1.kill (m.φ id)) := by
  refine ⟨by rw [nx_kill2]; exact h.nx, h.pos, h.z, h.zl, ?_, ?_, h.inj, h.bd, ?_⟩
  · rw [get_kill2 h.zd]; split; rfl; exact h.zd
  · simp only [AH.kill]; rw [if_neg (by omega)]; exact h.nil
  · intro j hj
    rw [get_kill2 h.zd] at hj ⊢
    split at hj
    · exact absurd rfl hj
    · rename_i e
      rw [if_neg e]
      obtain ⟨a1, C, a2, a3, a4, a5⟩ := h.blk j hj
      refine ⟨a1, C, ?_, a3, a4, a5⟩
      simp only [AH.kill]
      rw [if_neg]; exact a2
      rintro ⟨e2, h4⟩
      rcases h.inj j id a1 (h.blk id hid).1 e2 with h3 | h3
      · exact e h3
      · exact h4 (e2 ▸ h3)
theorem EX.kill (h : EX H0 In m H1) {id : Nat} (hid : id < m.nx) : EX H0 In m (H1.kill (m.φ id)) := by
  refine ⟨h.nx, ?_, h.new⟩
  intro j hj hi
  simp only [AH.kill]
  rw [if_neg]; exact h.out j hj hi
  rintro ⟨e, hz⟩
  rcases h.new id hid with h1 | h1 | h1
  · omega
  · exact hi (e ▸ h1)
  · exact hz h1

/-! ### Values -/
def FrE (m : Mp) (fr : Fr2) (fr1 : Fr) : Prop := ∀ t, EV m (fr.get t) (fr1 t)
theorem FrE.mono {m' : Mp} (hm : m.Le m') {fr : Fr2} {fr1 : Fr} (h : FrE m fr fr1) : FrE m' fr fr1 := fun t => EV.mono hm _ _ (h t)
theorem FrE.set {fr : Fr2} {fr1 : Fr} (h : FrE m fr fr1) {d : Option Nat} {v : V} {a : AV} (hv : EV m v a) : FrE m (fr.setO d v) (fr1.setO d a) := by
  cases d with
  | none => exact h
  | some d =>
    intro t
    simp only [Fr2.setO, Fr2.get, Fr.setO, Fr.set]
    cases e : Nat.beq d t with
    | true =>
      have := Nat.eq_of_beq_eq_true e
      subst this
      simp only [cond_true, if_true]; exact hv
    | false =>
      have : t ≠ d := fun e2 => by rw [e2] at e; simp at e
      simp only [cond_false, if_neg this]; exact h t
mutual
theorem ofAV_ev (hp : 0 < m.nx) (hz : m.φ 0 = 0) (hl : m.ln 0 = 0) : ∀ a : AV, EV m (ofAV a) a
  | .b _ | .n .. | .s _ | .pn | .en => by simp only [ofAV, EV]
  | .l id lo n => by
    simp only [ofAV]
    cases e : (Nat.beq id 0 && (Nat.beq lo 0 && Nat.beq n 0)) with
    | false => simp only [cond_false, EV]
    | true =>
      simp only [Bool.and_eq_true] at e
      have h1 := Nat.eq_of_beq_eq_true e.1
      have h2 := Nat.eq_of_beq_eq_true e.2.1
      have h3 := Nat.eq_of_beq_eq_true e.2.2
      subst h1; subst h2; subst h3
      simp only [cond_true, EV, hz, hl]
      exact ⟨⟨hp, Nat.le_refl _⟩, True.intro⟩
  | .a cs => by simp only [ofAV, EV]; exact ⟨_, rfl, ofAVs_ev hp hz hl cs⟩
  | .t cs => by simp only [ofAV, EV]; exact ⟨_, rfl, ofAVs_ev hp hz hl cs⟩
  | .f g cs => by simp only [ofAV, EV]; exact ⟨_, rfl, ofAVs_ev hp hz hl cs⟩
  | .e ty v => by simp only [ofAV, EV]; exact ⟨_, rfl, ofAV_ev hp hz hl v⟩
  | .p .. | .q _ | .pq .. | .u => by simp only [ofAV, EV]
theorem ofAVs_ev (hp : 0 < m.nx) (hz : m.φ 0 = 0) (hl : m.ln 0 = 0) : ∀ a : List AV, EVs m (ofAVs a) a
  | [] => by simp only [ofAVs, EVs]
  | v :: r => by simp only [ofAVs]; exact EVs.cons (ofAV_ev hp hz hl v) (ofAVs_ev hp hz hl r)
end
theorem ev_ev (h : EH m H H1) {fr : Fr2} {fr1 : Fr} (hf : FrE m fr fr1) (x : Od) : EV m (fr.ev x) (fr1.ev x) := by
  cases x with
  | t k => exact hf k
  | c v => exact ofAV_ev h.pos h.z h.zl v
theorem evs_ev (h : EH m H H1) {fr : Fr2} {fr1 : Fr} (hf : FrE m fr fr1) : ∀ xs : List Od, EVs m (evs fr xs) (xs.map fr1.ev)
  | [] => EVs.nil
  | x :: r => by simp only [evs, List.map_cons]; exact EVs.cons (ev_ev h hf x) (evs_ev h hf r)

theorem Cps.map_cells {T : GT} {xs : List T.den} {i : Nat} {x : T.den} (h : xs[i]? = some x) : (xs.map (cells T))[i]? = some (cells T x) := by simp [h]
theorem evss_cells (m : Mp) {T : GT} : ∀ xs : List T.den, EVss m (xs.map (cells T)) (xs.map (cellsA T))
  | [] => by simp [EVss]
  | x :: r => by simp only [List.map_cons]; exact EVss.cons (ev_cells m T x) (evss_cells m r)

theorem part_ev {ag : Bool} {sz off : Nat} {cs : List V} {v : V} (h : part ag sz off cs = (true, v)) {as : List AV} (he : EVs m cs as) : ∃ a, partv ag sz off as = some a ∧ EV m v a := by
  simp only [part, Prod.mk.injEq, Bool.and_eq_true, Bool.or_eq_true] at h
  obtain ⟨⟨h1, h2⟩, h3⟩ := h
  have h1 := Nat.le_of_ble_eq_true h1
  have hl := he.length
  unfold partv
  rw [if_pos (by omega)]
  cases ag with
  | true =>
    simp only [cond_true] at h3
    subst h3
    simp only [if_true]
    refine ⟨_, rfl, ?_⟩
    simp only [EV]
    exact ⟨_, rfl, (he.drop off).take sz⟩
  | false =>
    simp only [cond_false] at h3
    subst h3
    have h2 : 1 ≤ sz := Nat.le_of_ble_eq_true (h2.resolve_left (by simp))
    simp only [Bool.false_eq_true, if_false]
    exact he.nth (by omega)
theorem putV_ev {l : List V} {off : Nat} {vs : List V} {al av : List AV} (h : EVs m l al) (hv : EVs m vs av) : EVs m (putV l off vs) (putAt al off av) := by
  simp only [putV, putAt, hv.length]
  exact ((h.take off).append hv).append (h.drop _)

theorem ne_dead {B : Blk2} {id : Nat} (h : H.get id = B) (hb : B ≠ .dead) : H.get id ≠ .dead := by rw [h]; exact hb

/-! ### Simple operations -/
theorem kd_ev {v : V} {a : AV} (h : EV m v a) (hk : v.kd < 99) : a.kd = v.kd := by
  cases v <;> simp only [V.kd] at hk ⊢ <;> first | omega | skip
  case b => simp only [EV] at h; subst h; rfl
  case n => simp only [EV] at h; subst h; rfl
  case s => simp only [EV] at h; subst h; rfl
theorem kds_ev : ∀ {vs : List V} {as : List AV}, EVs m vs as → (∀ k ∈ kds vs, k < 99) → as.map AV.kd = kds vs
  | [], as, h, _ => by rw [h.inv0]; rfl
  | v :: r, as, h, hk => by
    obtain ⟨a, q, rfl, h1, h2⟩ := h.inv
    simp only [kds, List.mem_cons, forall_eq_or_imp] at hk
    simp only [kds, List.map_cons]
    rw [kd_ev h1 hk.1, kds_ev h2 hk.2]
theorem beqN_eq : ∀ {a b : List Nat}, beqN a b = true → a = b
  | [], [], _ => rfl
  | x :: r, y :: q, h => by
    simp only [beqN, Bool.and_eq_true] at h
    rw [Nat.eq_of_beq_eq_true h.1, beqN_eq h.2]
  | [], _ :: _, h => by simp [beqN] at h
  | _ :: _, [], h => by simp [beqN] at h
theorem req1_ev {x y : V} {a b : AV} (hx : EV m x a) (hy : EV m y b) (hk : x.kd < 99) (he : y.kd = x.kd) : sceq a b = some (req1 x y) := by
  cases x <;> simp only [V.kd] at hk he <;> try omega
  case b p =>
    cases y <;> simp only [V.kd] at he <;> try omega
    case b q =>
      simp only [EV] at hx hy
      subst hx; subst hy
      simp only [sceq, req1]
    case n k' q => cases k' <;> simp [IntKind.nr] at he
  case n k p =>
    cases y <;> simp only [V.kd] at he <;> try (cases k <;> simp [IntKind.nr] at he; done)
    case n k' q =>
      have e : k = k' := by cases k <;> cases k' <;> simp_all [IntKind.nr]
      subst e
      simp only [EV] at hx hy
      subst hx; subst hy
      simp only [sceq, req1, if_true, ieq_eq]
  case s p =>
    cases y <;> simp only [V.kd] at he <;> try omega
    case n k' q => cases k' <;> simp [IntKind.nr] at he
    case s q =>
      simp only [EV] at hx hy
      subst hx; subst hy
      simp only [sceq, req1]
theorem reqs_ev : ∀ {xs ys : List V} {as bs : List AV}, EVs m xs as → EVs m ys bs → (∀ k ∈ kds xs, k < 99) → kds ys = kds xs → sceqs as bs = some (reqs xs ys)
  | [], [], as, bs, h1, h2, _, _ => by rw [h1.inv0, h2.inv0]; simp [sceqs, reqs]
  | [], _ :: _, _, _, _, _, _, h => by simp [kds] at h
  | _ :: _, [], _, _, _, _, _, h => by simp [kds] at h
  | x :: xs, y :: ys, as, bs, h1, h2, hk, he => by
    obtain ⟨a, q, rfl, e1, h1⟩ := h1.inv
    obtain ⟨b, q', rfl, e2, h2⟩ := h2.inv
    simp only [kds, List.mem_cons, forall_eq_or_imp, List.cons.injEq] at hk he
    have ih := reqs_ev h1 h2 hk.2 he.2
    simp only [sceqs, req1_ev e1 e2 hk.1 he.1, Option.bind_some]
    cases xs with
    | nil =>
      have hys : ys = [] := by cases ys <;> simp_all [kds]
      subst hys
      rw [h1.inv0, h2.inv0]
      simp only [reqs, sceqs]
      cases req1 x y <;> simp
    | cons x' xs' =>
      rw [ih]
      simp only [reqs]
      cases req1 x y <;> simp

theorem rbin_ev {op : BinOp} {x y v : V} {a b : AV} (h : rbin op x y = (true, v)) (hx : EV m x a) (hy : EV m y b) {K : AV → Prop} (hK : ∀ c, EV m v c → K c) : abin op a b K := by
  cases x <;> try (simp only [rbin, Prod.mk.injEq, Bool.false_eq_true, false_and] at h; done)
  case n k p =>
    cases y <;> try (simp only [rbin, Prod.mk.injEq, Bool.false_eq_true, false_and] at h; done)
    case n k' q =>
      simp only [EV] at hx hy
      subst hx; subst hy
      cases op <;> simp only [rbin, ile_eq, ilt_eq, ieq_eq, Prod.mk.injEq, decide_eq_true_eq, Bool.and_eq_true, Bool.not_eq_true', decide_eq_false_iff_not] at h <;> obtain ⟨h1, rfl⟩ := h <;> simp only [abin]
      case quo => exact ⟨h1.1, h1.2, hK _ (by simp only [EV])⟩
      case rem => exact ⟨h1.1, h1.2, hK _ (by simp only [EV])⟩
      case neq => exact ⟨h1, hK _ (by simp only [EV, ne_eq, decide_not])⟩
      all_goals exact ⟨h1, hK _ (by simp only [EV])⟩
  case s p =>
    cases y <;> try (simp only [rbin, Prod.mk.injEq, Bool.false_eq_true, false_and] at h; done)
    case s q =>
      simp only [EV] at hx hy
      subst hx; subst hy
      cases op <;> simp only [rbin, Prod.mk.injEq, decide_eq_true_eq, Bool.false_eq_true, false_and, true_and] at h
      case add => obtain ⟨h1, rfl⟩ := h; exact ⟨h1, hK _ (by simp only [EV])⟩
      case neq => subst h; simp only [abin]; exact hK _ (by simp only [EV, ne_eq, decide_not])
      all_goals
        subst h
        simp only [abin]
        exact hK _ (by simp only [EV])
theorem run1_ev {op : UnOp} {x v : V} {a : AV} (h : run1 op x = (true, v)) (hx : EV m x a) {K : AV → Prop} (hK : ∀ c, EV m v c → K c) : aun op a K := by
  unfold run1 at h
  split at h <;> simp only [Prod.mk.injEq, true_and, Bool.false_eq_true, false_and] at h <;> subst h <;> simp only [EV] at hx <;> subst hx <;> simp only [aun] <;> exact hK _ (by simp only [EV])

theorem mm2_ev {mx : Bool} {k : IntKind} : ∀ {vs : List V} {as : List AV} {x : Int} {v : V}, mm2 mx k x vs = (true, v) → EVs m vs as → ∃ a, mmv2 mx k x as = some a ∧ EV m v a
  | [], as, x, v, h, he => by
    rw [he.inv0]
    simp only [mm2, Prod.mk.injEq, true_and] at h
    subst h
    exact ⟨.n k x, rfl, by simp only [EV]⟩
  | u :: r, as, x, v, h, he => by
    obtain ⟨a, q, rfl, e, he2⟩ := he.inv
    cases u <;> try (simp only [mm2, Prod.mk.injEq, Bool.false_eq_true, false_and] at h; done)
    case n k' y =>
      simp only [EV] at e
      subst e
      simp only [mm2] at h
      generalize hg : mm2 mx k (bif mx then (if y > x then y else x) else (if y < x then y else x)) r = g at h
      obtain ⟨ok, w⟩ := g
      simp only [Prod.mk.injEq, Bool.and_eq_true, decide_eq_true_eq] at h
      obtain ⟨⟨h1, h2⟩, rfl⟩ := h
      subst h1; subst h2
      obtain ⟨b, hb, hv⟩ := mm2_ev hg he2
      refine ⟨b, ?_, hv⟩
      simp only [mmv2, if_true]
      rw [← hb]
      cases mx <;> simp
theorem mm1_ev {mx : Bool} {vs : List V} {as : List AV} {v : V} (h : mm1 mx vs = (true, v)) (he : EVs m vs as) : ∃ a, mmv mx as = some a ∧ EV m v a := by
  unfold mm1 at h
  split at h
  · obtain ⟨a, q, rfl, e, he2⟩ := he.inv
    simp only [EV] at e
    subst e
    exact mm2_ev h he2
  · simp at h

theorem fill2_ev (h : EH m H H1) {fr : Fr2} {fr1 : Fr} (hf : FrE m fr fr1) : ∀ {ps : List (Nat × Nat × Od)} {z : List V} {az : List AV}, fillOk fr az.length ps = true → EVs m z az →
    partsOk fr1 az.length ps ∧ EVs m (fill2 fr z ps) (fillv fr1 az ps)
  | [], z, az, _, hz => ⟨trivial, hz⟩
  | (off, sz, x) :: r, z, az, hk, hz => by
    simp only [fillOk, Bool.and_eq_true] at hk
    obtain ⟨⟨⟨h1, h2⟩, h3⟩, h4⟩ := hk
    have h1 := Nat.eq_of_beq_eq_true h1
    have h3 := Nat.le_of_ble_eq_true h3
    have e := ev_ev h hf x
    have hc := ev_cellsOf e h2
    have hlen : (putAt az off (cellsOf (fr1.ev x))).length = az.length := by
      have := hc.length
      simp only [putAt, List.length_append, List.length_take, List.length_drop]
      omega
    have ih := fill2_ev h hf (ps := r) (z := putV z off (fr.ev x).cellsOf) (az := putAt az off (cellsOf (fr1.ev x))) (by rw [hlen]; exact h4) (putV_ev hz hc)
    rw [hlen] at ih
    simp only [partsOk, fill2, fillv]
    exact ⟨⟨by rw [hc.length]; exact h1, leafs_all hc h2, h3, ih.1⟩, ih.2⟩

/-! ### Slices -/
/-- The rows of a slice, in the abstract machine. -/
inductive Rows1 (m : Mp) (H1 : AH) : AV → List (List AV) → Nat → Prop
  | l (id i n : Nat) (B : Blk) (h1 : H1.m id = some B) (h2 : i + n ≤ B.rows.length) (ho : B.own = true) : Rows1 m H1 (.l id i n) ((B.rows.drop i).take n) B.k
  | q (rows : List (List AV)) (k : Nat) (h : ∀ r ∈ rows, r.length = k ∧ r.all AV.leaf = true) : Rows1 m H1 (.q rows) rows k
theorem cellsA_leaf (T : GT) (x : T.den) : (cellsA T x).all AV.leaf = true := leafs_all (ev_cells ⟨id, id, 0⟩ T x) (cells_leaf T x)
theorem cnt_ty (h : EH m H H1) {v : V} {a : AV} {T : GT} {xs : List T.den} (hc : cnt H v = .ty T xs) (he : EV m v a) :
    ∃ rows k, Rows1 m H1 a rows k ∧ EVss m (xs.map (cells T)) rows ∧ (k = T.size ∨ (xs = [] ∧ ∃ i, a = .l 0 i 0)) := by
  unfold cnt at hc
  split at hc
  · rename_i id
    split at hc
    · rename_i T' xs' hg
      simp only [Cn.ty.injEq] at hc
      obtain ⟨rfl, hc⟩ := hc
      simp only [heq_eq_eq] at hc
      subst hc
      obtain ⟨a1, B, a2, a3, a4, a5⟩ := h.blk id (by rw [hg]; simp)
      rw [hg] at a3
      simp only [EV] at he
      obtain ⟨_, rfl⟩ := he
      refine ⟨_, _, Rows1.l _ 0 (m.ln id) B a2 (by omega) a4, ?_, ?_⟩
      · rw [a5]; simp only [List.drop_zero, List.take_length]; exact a3.2
      · rcases a3.1 with h0 | h0
        · right
          have hl := h.ln0 (by rw [hg]; simp) h0
          refine ⟨?_, 0, by rw [h0, hl]⟩
          have := a3.2.length
          rw [← a5, hl] at this
          simpa using this.symm
        · exact .inl h0
    · simp at hc
    · simp at hc
  · rename_i id lo n
    cases e : Nat.beq id 0 with
    | true => simp [e] at hc
    | false =>
      simp only [e, cond_false] at hc
      split at hc
      · rename_i T' xs' hg
        simp only [Cn.ty.injEq] at hc
        obtain ⟨rfl, hc⟩ := hc
        simp only [heq_eq_eq] at hc
        subst hc
        obtain ⟨a1, B, a2, a3, a4, a5⟩ := h.blk id (by rw [hg]; simp)
        rw [hg] at a3
        simp only [EV] at he
        obtain ⟨⟨_, hb⟩, rfl⟩ := he
        refine ⟨_, _, Rows1.l _ lo n B a2 (by omega) a4, ?_, ?_⟩
        · rw [List.map_take, List.map_drop]
          exact (a3.2.drop lo).take n
        · rcases a3.1 with h0 | h0
          · right
            have hl := h.ln0 (by rw [hg]; simp) h0
            have : n = 0 := by omega
            subst this
            exact ⟨by simp, lo, by rw [h0]⟩
          · exact .inl h0
      · simp at hc
      · simp at hc
  · rename_i T' xs'
    simp only [Cn.ty.injEq] at hc
    obtain ⟨rfl, hc⟩ := hc
    simp only [heq_eq_eq] at hc
    subst hc
    simp only [EV] at he
    rcases he with rfl | ⟨rfl, rfl⟩
    · refine ⟨_, T'.size, Rows1.q _ _ ?_, evss_cells m _, .inl rfl⟩
      intro r hr
      obtain ⟨x, _, rfl⟩ := List.mem_map.1 hr
      exact ⟨cellsA_size T' x, cellsA_leaf T' x⟩
    · exact ⟨_, _, Rows1.l 0 0 0 nilBlk h.nil (by simp [nilBlk]) rfl, by simp [EVss], .inr ⟨rfl, 0, rfl⟩⟩
  · simp at hc
theorem cnt_un (h : EH m H H1) {v : V} {a : AV} {k : Nat} {rs : List (List V)} (hc : cnt H v = .un k rs) (he : EV m v a) :
    ∃ rows, Rows1 m H1 a rows k ∧ EVss m rs rows := by
  unfold cnt at hc
  split at hc
  · rename_i id
    split at hc
    · simp at hc
    · rename_i k' rs' hg
      simp only [Cn.un.injEq] at hc
      obtain ⟨rfl, rfl⟩ := hc
      obtain ⟨a1, B, a2, a3, a4, a5⟩ := h.blk id (by rw [hg]; simp)
      rw [hg] at a3
      simp only [EV] at he
      obtain ⟨_, rfl⟩ := he
      have := Rows1.l (m := m) (m.φ id) 0 (m.ln id) B a2 (by omega) a4
      rw [a3.1] at this
      refine ⟨_, this, ?_⟩
      rw [a5]; simp only [List.drop_zero, List.take_length]; exact a3.2
    · simp at hc
  · rename_i id lo n
    cases e : Nat.beq id 0 with
    | true => simp [e] at hc
    | false =>
      simp only [e, cond_false] at hc
      split at hc
      · simp at hc
      · rename_i k' rs' hg
        simp only [Cn.un.injEq] at hc
        obtain ⟨rfl, rfl⟩ := hc
        obtain ⟨a1, B, a2, a3, a4, a5⟩ := h.blk id (by rw [hg]; simp)
        rw [hg] at a3
        simp only [EV] at he
        obtain ⟨⟨_, hb⟩, rfl⟩ := he
        have := Rows1.l (m := m) (m.φ id) lo n B a2 (by omega) a4
        rw [a3.1] at this
        exact ⟨_, this, (a3.2.drop lo).take n⟩
      · simp at hc
  · simp at hc
  · simp at hc
theorem nilRow (h : EH m H H1) : Rows1 m H1 (.l 0 0 0) [] nilBlk.k := Rows1.l 0 0 0 nilBlk h.nil (by simp [nilBlk]) rfl
theorem cnt_nil (h : EH m H H1) {v : V} {a : AV} (hc : cnt H v = .nil) (he : EV m v a) : a = .l 0 0 0 := by
  unfold cnt at hc
  split at hc
  · split at hc <;> simp at hc
  · rename_i id lo n
    cases e : Nat.beq id 0 with
    | false =>
      simp only [e, cond_false] at hc
      split at hc <;> simp at hc
    | true =>
      have := Nat.eq_of_beq_eq_true e
      subst this
      simp only [EV] at he
      obtain ⟨⟨_, hb⟩, rfl⟩ := he
      rw [h.zl] at hb
      have e1 : n = 0 := by omega
      have e2 : lo = 0 := by omega
      subst e1; subst e2
      rw [h.z]
  · simp at hc
  · simp at hc
/-- What an owned slice is. -/
theorem idOf_ev {v : V} {a : AV} {id : Nat} (hi : idOf v = some id) (he : EV m v a) : ∃ i n, a = .l (m.φ id) i n ∧ id < m.nx := by
  cases v <;> simp only [idOf, reduceCtorEq, Option.some.injEq] at hi <;> subst hi <;> simp only [EV] at he
  · obtain ⟨⟨h1, _⟩, rfl⟩ := he
    exact ⟨_, _, rfl, h1⟩
  · obtain ⟨h1, rfl⟩ := he
    exact ⟨_, _, rfl, h1⟩
theorem idOf_alive {v : V} {id : Nat} (hi : idOf v = some id) (hc : cnt H v ≠ .nil) (hb : cnt H v ≠ .bad) : H.get id ≠ .dead := by
  intro hd
  cases v <;> simp only [idOf, reduceCtorEq, Option.some.injEq] at hi <;> subst hi <;> simp only [cnt, hd] at hc hb
  · rename_i id' lo n
    cases e : Nat.beq id' 0 <;> simp [e] at hc hb
  · exact hb rfl
end
end Go.Proofs.Ytamnlngihccgiaa.AM
