/- How the relation between the heaps is kept: a new block, a write, a block that is given up, a call. -/
import Derived.Test.YtamnlngihccgiaaAmH
namespace Go.Proofs.Ytamnlngihccgiaa.AM
set_option linter.all false
open Go
section
variable {P : Program} {nt : Nat} {ρ : Ren} {fr : Fr} {a : Act} {H : AH} {w : World} {o : Oper} {K : AV → AH → Prop} {pw rd : Nat → Prop}

theorem Gives.of_quiet (hf : FrOk ρ fr a) (hs : a.tmps.size = nt) (hR : Rel ρ H w) {x : AOp} (hq : x.quiet = true) (hc : checkOp P nt o.op x = true)
    (h : aop (env P) pw rd x fr H K) (hrd : ∀ (x : Od), True → True := fun _ h => h) : Gives P rd ρ H w a o K := by
  have h0 := hR.nil.2
  cases x <;> simp only [AOp.quiet] at hq
  case mov => exact g_mov hf hs h0 hc h
  case pick => exact g_pick hf hs h0 hc h
  case bin => exact g_bin hf hs h0 hc h
  case beq => exact g_beq hf hs h0 hc h
  case eqs => exact g_eqs hf hs h0 hc h
  case eqn => exact g_eqn hf hs h0 hc h
  case un => exact g_un hf hs h0 hc h
  case conv => exact g_conv hf hs h0 hc h
  case bts => exact g_bts hf hs hR hc h
  case fld => exact g_fld hf hs h0 hc h
  case ext => exact g_ext hf hs h0 hc h
  case nilc => exact g_nilc hf hs h0 hc h
  case fad => exact g_fad hf hs h0 hc h
  case iad => exact g_iad hf hs hR hc h
  case idx => exact g_idx hf hs h0 hc h
  case sls => exact g_sls hf hs hR hc h
  case sst => exact g_sst hf hs h0 hc h
  case load => exact g_load hf hs hR hc h
  case bld => exact g_bld hf hs h0 hc h
  case mkf => exact g_mkf hf hs h0 hc h
  case len => exact g_len hf hs h0 hc h
  case mm => exact g_mm hf hs h0 hc h
  case mif => exact g_mif hf hs h0 hc h
  all_goals cases hq

/-- What an operation does. -/
def Eff (P : Program) (W : Nat → Prop) (ρ : Ren) (H : AH) (w : World) (a : Act) (o : Oper) (K : AV → AH → Prop) : Prop :=
  ∀ Q, o.wp P a w (fun a' w' => ∃ cv av ρ' H', a' = a.put o.dst cv ∧ K av H' ∧ VR ρ' av cv ∧ Rel ρ' H' w' ∧ Reach W ρ H w ρ' H' w') Q

theorem Gives.eff (hR : Rel ρ H w) (h : Gives P rd ρ H w a o K) (W : Nat → Prop) : Eff P W ρ H w a o K := by
  intro Q
  obtain ⟨cv, av, hK, hv, hr⟩ := h
  unfold Oper.wp
  rw [hr w (Agree.refl _ _ _)]
  exact ⟨cv, av, ρ, H, rfl, hK, hv, hR, Reach.refl _ _ _ _⟩

/-! ### A new block -/
theorem Rel.nx_pos (hR : Rel ρ H w) : 0 < H.nx := by
  rcases Nat.eq_zero_or_pos H.nx with h | h
  · have := (hR.fresh 0 (by omega)).1
    rw [hR.nil.2] at this; cases this
  · exact h

def Ren.ext (ρ : Ren) (id : Nat) (x : Option Loc) : Ren := ⟨fun j => if j = id then some x else ρ j, ρ.con⟩
theorem Ren.Le.ext {ρ : Ren} {id : Nat} {x : Option Loc} (h : ρ id = none) : ρ.Le (ρ.ext id x) := ⟨fun j y hy => by
  unfold Ren.ext
  simp only
  split
  · rename_i e; subst e; rw [h] at hy; cases hy
  · exact hy, fun _ _ _ h => h⟩

theorem BlkOk.mono {l : Loc} {B : Blk} {ρ' : Ren} {w' : World} (h : BlkOk ρ w l B) (hle : ρ.Le ρ') (hw : w'.heap[l.b]? = w.heap[l.b]?) (hsz : w.heap.size ≤ w'.heap.size) : BlkOk ρ' w' l B where
  k := h.k
  len := h.len
  cap := h.cap
  wid := h.wid
  cel := fun i r hr j v hv => by
    obtain ⟨cv, h1, h2⟩ := h.cel i r hr j v hv
    exact ⟨cv, by rw [cell?_same hw]; exact h1, VR.mono hle _ _ h2⟩
  wr := fun ho o ho' => by
    obtain ⟨h1, h2⟩ := h.wr ho o ho'
    exact ⟨by rw [cell?_same hw]; exact h1, by rw [frozen?_same hw]; exact h2⟩
  fit := Nat.lt_of_lt_of_le h.fit hsz

theorem heap_alloc_lt (w : World) (ob : Obj) {b : Nat} (h : b < w.heap.size) : (w.alloc ob).heap[b]? = w.heap[b]? := by
  show (w.heap.push ob)[b]? = _
  simp [Array.getElem?_push, Nat.ne_of_lt h]

theorem Rel.push (hR : Rel ρ H w) {B : Blk} {cells : Array Value} {elem : TypeId} {cap : Nat} (ho : B.own = true) (hwid : ∀ r ∈ B.rows, r.length = B.k ∧ r.all AV.leaf = true)
    (hcap : B.rows.length ≤ cap) (hsz : cap * B.k ≤ cells.size)
    (hc : ∀ (i : Nat) r, B.rows[i]? = some r → ∀ (j : Nat) v, r[j]? = some v → ∃ cv, cells[i * B.k + j]? = some cv ∧ VR ρ v cv) (W : Nat → Prop) :
    Rel (ρ.ext H.nx (some ⟨w.heap.size, 0, B.k, B.rows.length, cap⟩)) (H.push B) (w.alloc (.cells cells elem)) ∧
    Reach W ρ H w (ρ.ext H.nx (some ⟨w.heap.size, 0, B.k, B.rows.length, cap⟩)) (H.push B) (w.alloc (.cells cells elem)) := by
  have hf := hR.fresh H.nx (Nat.le_refl _)
  have hle : ρ.Le (ρ.ext H.nx (some ⟨w.heap.size, 0, B.k, B.rows.length, cap⟩)) := Ren.Le.ext hf.1
  have hpos := hR.nx_pos
  have hsize : (w.alloc (.cells cells elem)).heap.size = w.heap.size + 1 := by show (w.heap.push _).size = _; simp
  have hnew : (w.alloc (.cells cells elem)).heap[w.heap.size]? = some (.cells cells elem) := by show (w.heap.push _)[_]? = _; simp
  have hcell : ∀ o, (w.alloc (.cells cells elem)).cell? ⟨w.heap.size, o, none⟩ = cells[o]? := fun o => by simp only [World.cell?, hnew]; rfl
  have hfro : ∀ o, (w.alloc (.cells cells elem)).frozen? ⟨w.heap.size, o, none⟩ = false := fun o => by simp only [World.frozen?, hnew]; simp
  have hget : ∀ id B', (H.push B).m id = some B' → (id = H.nx ∧ B' = B) ∨ (id ≠ H.nx ∧ H.m id = some B') := fun id B' h => by
    simp only [AH.push] at h
    split at h
    · rename_i e; exact .inl ⟨e, by simpa using h.symm⟩
    · rename_i e; exact .inr ⟨e, h⟩
  have hren : ∀ id l, (ρ.ext H.nx (some ⟨w.heap.size, 0, B.k, B.rows.length, cap⟩)) id = some (some l) → (id = H.nx ∧ l = ⟨w.heap.size, 0, B.k, B.rows.length, cap⟩) ∨ (id ≠ H.nx ∧ ρ id = some (some l)) := fun id l h => by
    simp only [Ren.ext] at h
    split at h
    · rename_i e; simp only [Option.some.injEq] at h; exact .inl ⟨e, h.symm⟩
    · rename_i e; exact .inr ⟨e, h⟩
  refine ⟨⟨?_, ?_, ?_, ?_, ?_, ?_, ?_⟩, ⟨hle, ?_, ?_, ?_, ?_, ?_, fun _ _ _ h => .inl h, ⟨rfl, rfl, rfl⟩⟩⟩
  · intro id hid
    simp only [AH.push] at hid ⊢
    have h1 := hR.fresh id (by omega)
    have hne : id ≠ H.nx := by omega
    simp only [Ren.ext, hne, if_false]
    exact h1
  · simp only [AH.push, Ren.ext, Nat.ne_of_lt hpos, if_false]
    exact hR.nil
  · intro id B' h
    rcases hget id B' h with ⟨rfl, rfl⟩ | ⟨hne, h⟩
    · refine ⟨some ⟨w.heap.size, 0, B'.k, B'.rows.length, cap⟩, by simp [Ren.ext], ?_⟩
      simp only
      refine ⟨rfl, rfl, hcap, hwid, ?_, ?_, by simp only [hsize]; omega⟩
      · intro i r hr j v hv
        obtain ⟨cv, h1, h2⟩ := hc i r hr j v hv
        refine ⟨cv, ?_, VR.mono hle _ _ h2⟩
        rw [hcell]; simpa using h1
      · intro _ o ho'
        refine ⟨?_, hfro _⟩
        rw [hcell]
        simp only at ho'
        have hlt : 0 + o < cells.size := by omega
        exact ⟨cells[0 + o], Array.getElem?_eq_getElem hlt⟩
    · obtain ⟨x, hx, hm⟩ := hR.blk id B' h
      refine ⟨x, hle.l _ _ hx, ?_⟩
      cases x with
      | none => exact hm
      | some l => exact BlkOk.mono hm hle (heap_alloc_lt _ _ hm.fit) (by omega)
  · intro id id' B1 B2 l l' h1 h2 h3 h4 ho' hne
    rcases hget id B1 h1 with ⟨rfl, rfl⟩ | ⟨hn1, h1⟩ <;> rcases hget id' B2 h2 with ⟨rfl, rfl⟩ | ⟨hn2, h2⟩
    · exact absurd rfl hne
    · rcases hren _ _ h3 with ⟨_, rfl⟩ | ⟨hc', _⟩
      · rcases hren _ _ h4 with ⟨hc', _⟩ | ⟨_, h4⟩
        · exact absurd hc' hn2
        · have := hR.fit _ _ h4
          simp only; omega
      · exact absurd rfl hc'
    · rcases hren _ _ h4 with ⟨_, rfl⟩ | ⟨hc', _⟩
      · rcases hren _ _ h3 with ⟨hc', _⟩ | ⟨_, h3⟩
        · exact absurd hc' hn1
        · have := hR.fit _ _ h3
          simp only; omega
      · exact absurd rfl hc'
    · rcases hren _ _ h3 with ⟨hc', _⟩ | ⟨_, h3⟩
      · exact absurd hc' hn1
      rcases hren _ _ h4 with ⟨hc', _⟩ | ⟨_, h4⟩
      · exact absurd hc' hn2
      exact hR.sep id id' B1 B2 l l' h1 h2 h3 h4 ho' hne
  · intro id l h
    rcases hren _ _ h with ⟨_, rfl⟩ | ⟨_, h⟩
    · simp only [hsize]; omega
    · have := hR.fit _ _ h; omega
  · intro b o v h
    obtain ⟨h1, h2⟩ := hR.con b o v h
    exact ⟨by rw [cell?_same (heap_alloc_lt _ _ h2)]; exact h1, by omega⟩
  · intro id B' l h1 h2 ho' o
    rcases hren _ _ h2 with ⟨_, rfl⟩ | ⟨hne, h2⟩
    · show ρ.con w.heap.size o = none
      cases e : ρ.con w.heap.size o with
      | none => rfl
      | some v => exact absurd (hR.con _ _ _ e).2 (Nat.lt_irrefl _)
    · rcases hget id B' h1 with ⟨hc', _⟩ | ⟨_, h1⟩
      · exact absurd hc' hne
      · exact hR.conOwn id B' l h1 h2 ho' o
  · simp [AH.push]
  · omega
  · intro b hb _
    exact heap_alloc_lt _ _ hb
  · intro id B' l h1 h2 h3
    rcases hren _ _ h3 with ⟨_, rfl⟩ | ⟨hne, h3⟩
    · exact .inl (Nat.le_refl _)
    · rcases hget id B' h1 with ⟨hc', _⟩ | ⟨_, h1⟩
      · exact absurd hc' hne
      · exact .inr ⟨id, l, ⟨B', h1, h2⟩, .inl rfl, h3, rfl⟩
  · intro id B' h1 h2
    rcases hget id B' h1 with ⟨_, rfl⟩ | ⟨_, h1⟩
    · rw [ho] at h2; cases h2
    · exact h1

/-! ### A write -/
theorem Rel.write (hR : Rel ρ H w) {id : Nat} {B B' : Blk} {l : Loc} {w' : World} (hB : H.m id = some B) (hl : ρ id = some (some l)) (ho : B.own = true) (ho' : B'.own = true)
    (hsz : w'.heap.size = w.heap.size) (hoth : ∀ b, b ≠ l.b → w'.heap[b]? = w.heap[b]?) (hok : BlkOk ρ w' l B') (henv : SameEnv w w') {W : Nat → Prop} (hW : W id) :
    Rel ρ (H.put id B') w' ∧ Reach W ρ H w ρ (H.put id B') w' := by
  have hid0 : id ≠ 0 := fun e => by subst e; rw [hR.nil.2] at hl; cases hl
  have hlt : id < H.nx := by
    rcases Nat.lt_or_ge id H.nx with h | h
    · exact h
    · have := H.ok id h; rw [hB] at this; cases this
  have hget : ∀ j C, (H.put id B').m j = some C → (j = id ∧ C = B') ∨ (j ≠ id ∧ H.m j = some C) := fun j C h => by
    simp only [AH.put] at h
    split at h
    · rename_i e; exact .inl ⟨e.1, by simpa using h.symm⟩
    · rename_i e; exact .inr ⟨fun e' => e ⟨e', hlt⟩, h⟩
  refine ⟨⟨?_, ?_, ?_, ?_, ?_, ?_, ?_⟩, ⟨Ren.Le.refl ρ, Nat.le_refl _, by omega, ?_, ?_, ?_, fun _ _ _ h => .inl h, henv⟩⟩
  · intro j hj
    exact ⟨(hR.fresh j hj).1, (H.put id B').ok j hj⟩
  · refine ⟨?_, hR.nil.2⟩
    simp only [AH.put]
    rw [if_neg (fun e => hid0 e.1.symm)]
    exact hR.nil.1
  · intro j C h
    rcases hget j C h with ⟨rfl, rfl⟩ | ⟨hne, h⟩
    · exact ⟨some l, hl, hok⟩
    · obtain ⟨x, hx, hm⟩ := hR.blk j C h
      refine ⟨x, hx, ?_⟩
      cases x with
      | none => exact hm
      | some l' =>
        refine BlkOk.mono hm (Ren.Le.refl ρ) (hoth _ ?_) (by omega)
        exact (hR.sep id j B C l l' hB h hl hx ho (Ne.symm hne)).symm
  · intro j j' C C' m m' h1 h2 h3 h4 h5 h6
    rcases hget j C h1 with ⟨e1, _⟩ | ⟨hne, g1⟩ <;> rcases hget j' C' h2 with ⟨e2, _⟩ | ⟨hne', g2⟩
    · exact absurd (e1.trans e2.symm) h6
    · exact hR.sep _ _ B C' m m' (by rw [e1]; exact hB) g2 h3 h4 ho h6
    · exact hR.sep _ _ C B m m' g1 (by rw [e2]; exact hB) h3 h4 h5 h6
    · exact hR.sep _ _ C C' m m' g1 g2 h3 h4 h5 h6
  · intro j m hm
    rw [hsz]; exact hR.fit j m hm
  · intro b o v h
    obtain ⟨h1, h2⟩ := hR.con b o v h
    refine ⟨?_, by omega⟩
    rw [cell?_same (hoth b fun e => ?_)]
    · exact h1
    · subst e
      rw [hR.conOwn id B l hB hl ho o] at h; cases h
  · intro j C m h1 h2 h3 o
    rcases hget j C h1 with ⟨rfl, _⟩ | ⟨hne, h1⟩
    · exact hR.conOwn j B m hB h2 ho o
    · exact hR.conOwn j C m h1 h2 h3 o
  · intro b _ hno
    exact hoth b (fun e => hno id l hW hl e.symm)
  · intro j C m h1 h2 h3
    rcases hget j C h1 with ⟨rfl, rfl⟩ | ⟨hne, h1⟩
    · exact .inr ⟨j, m, ⟨B, hB, ho⟩, .inl rfl, h3, rfl⟩
    · exact .inr ⟨j, m, ⟨C, h1, h2⟩, .inl rfl, h3, rfl⟩
  · intro j C h1 h2
    rcases hget j C h1 with ⟨rfl, rfl⟩ | ⟨hne, h1⟩
    · rw [ho'] at h2; cases h2
    · exact h1

theorem setCells_heap (b : Nat) : ∀ (vs : List Value) (o : Nat) (w : World), (w.setCells b o vs).heap.size = w.heap.size ∧ ∀ b', b' ≠ b → (w.setCells b o vs).heap[b']? = w.heap[b']?
  | [], _, w => ⟨rfl, fun _ _ => rfl⟩
  | v :: r, o, w => by
    obtain ⟨h1, h2⟩ := setCells_heap b r (o + 1) (w.setCell ⟨b, o, none⟩ v)
    refine ⟨by rw [World.setCells, h1]; simp [World.setCell], fun b' hb => ?_⟩
    rw [World.setCells, h2 b' hb]
    simp [World.setCell, Array.getElem?_modify, Ne.symm hb]

theorem setCells_env (b : Nat) : ∀ (vs : List Value) (o : Nat) (w : World), SameEnv w (w.setCells b o vs)
  | [], _, w => ⟨rfl, rfl, rfl⟩
  | v :: r, o, w => by
    have h := setCells_env b r (o + 1) (w.setCell ⟨b, o, none⟩ v)
    exact ⟨h.1, h.2.1, h.2.2⟩

/-! ### A block that is given up -/
theorem Rel.kill (hR : Rel ρ H w) (id : Nat) (W : Nat → Prop) : Rel ρ (H.kill id) w ∧ Reach W ρ H w ρ (H.kill id) w := by
  have hget : ∀ j C, (H.kill id).m j = some C → H.m j = some C := fun j C h => by
    simp only [AH.kill] at h
    split at h
    · cases h
    · exact h
  refine ⟨⟨?_, ?_, ?_, ?_, hR.fit, hR.con, fun j C m h1 => hR.conOwn j C m (hget _ _ h1)⟩, ⟨Ren.Le.refl ρ, Nat.le_refl _, Nat.le_refl _, fun _ _ _ => rfl, ?_, ?_, fun _ _ _ h => .inl h, ⟨rfl, rfl, rfl⟩⟩⟩
  · intro j hj
    have h1 := hR.fresh j hj
    refine ⟨h1.1, ?_⟩
    simp only [AH.kill]
    split
    · rfl
    · exact h1.2
  · refine ⟨?_, hR.nil.2⟩
    simp only [AH.kill]
    rw [if_neg (by omega)]
    exact hR.nil.1
  · exact fun j C h => hR.blk j C (hget j C h)
  · exact fun j j' C C' m m' h1 h2 => hR.sep j j' C C' m m' (hget _ _ h1) (hget _ _ h2)
  · exact fun j C m h1 h2 h3 => .inr ⟨j, m, ⟨C, hget _ _ h1, h2⟩, .inl rfl, h3, rfl⟩
  · exact fun j C h1 _ => hget _ _ h1
end
end Go.Proofs.Ytamnlngihccgiaa.AM
