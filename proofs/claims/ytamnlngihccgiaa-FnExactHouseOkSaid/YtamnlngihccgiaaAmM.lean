/- Slices: appended to, and written out. -/
import Derived.Test.YtamnlngihccgiaaAmL
namespace Go.Proofs.Ytamnlngihccgiaa.AM
set_option linter.all false
open Go
section
variable {P : Program} {nt : Nat} {ρ : Ren} {fr : Fr} {a : Act} {H : AH} {w : World} {o : Oper} {K : AV → AH → Prop} {pw rd : Nat → Prop}

/-- The relation speaks of the memory alone. -/
theorem Rel.heap (hR : Rel ρ H w) {w' : World} (h : w'.heap = w.heap) : Rel ρ H w' where
  fresh := hR.fresh
  nil := hR.nil
  blk := fun id B hB => by
    obtain ⟨x, hx, hm⟩ := hR.blk id B hB
    refine ⟨x, hx, ?_⟩
    cases x with
    | none => exact hm
    | some l => exact BlkOk.mono hm (Ren.Le.refl ρ) (by rw [h]) (by rw [h]; exact Nat.le_refl _)
  sep := hR.sep
  fit := fun id l hl => by rw [h]; exact hR.fit id l hl
  con := fun b o v hb => by
    obtain ⟨h1, h2⟩ := hR.con b o v hb
    exact ⟨by rw [cell?_same (w := w) (w' := w') (by rw [h])]; exact h1, by rw [h]; exact h2⟩
  conOwn := hR.conOwn

theorem Reach.heap {W : Nat → Prop} {ρ' : Ren} {H' : AH} {w' w0 : World} (h : Reach W ρ H w0 ρ' H' w') (he : w0.heap = w.heap) (he2 : SameEnv w w0) : Reach W ρ H w ρ' H' w' :=
  ⟨h.ren, h.nx, by rw [← he]; exact h.size, fun b hb hno => by rw [← he]; exact h.keep b (by rw [he]; exact hb) hno, fun id B l h1 h2 h3 => by rw [← he]; exact h.own id B l h1 h2 h3, h.ro, fun b o v hb => by rw [← he]; exact h.con b o v hb, ⟨h.env.1.trans he2.1, h.env.2.1.trans he2.2.1, h.env.2.2.trans he2.2.2⟩⟩

/-- A block takes the place of another one, which is given up. -/
theorem Rel.move (hR : Rel ρ H w) {id : Nat} {B B' : Blk} {l l' : Loc} {w' : World} (hB : H.m id = some B) (hl : ρ id = some (some l)) (ho : B.own = true) (ho' : B'.own = true)
    (hsz : w'.heap.size = w.heap.size) (hoth : ∀ b, b ≠ l.b → w'.heap[b]? = w.heap[b]?) (hb : l'.b = l.b) (hok : BlkOk ρ w' l' B') (henv : SameEnv w w') {W : Nat → Prop} (hW : W id) :
    Rel (ρ.ext H.nx (some l')) ((H.kill id).push B') w' ∧ Reach W ρ H w (ρ.ext H.nx (some l')) ((H.kill id).push B') w' := by
  have hf := hR.fresh H.nx (Nat.le_refl _)
  have hle : ρ.Le (ρ.ext H.nx (some l')) := Ren.Le.ext hf.1
  have hpos := hR.nx_pos
  have hid0 : id ≠ 0 := fun e => by subst e; rw [hR.nil.2] at hl; cases hl
  have hnxk : (H.kill id).nx = H.nx := rfl
  have hget : ∀ j C, ((H.kill id).push B').m j = some C → (j = H.nx ∧ C = B') ∨ (j ≠ H.nx ∧ j ≠ id ∧ H.m j = some C) := fun j C h => by
    have h' : (if j = H.nx then some B' else if j = id ∧ id ≠ 0 then none else H.m j) = some C := h
    by_cases e : j = H.nx
    · rw [if_pos e] at h'; exact .inl ⟨e, by simpa using h'.symm⟩
    · rw [if_neg e] at h'
      by_cases e2 : j = id ∧ id ≠ 0
      · rw [if_pos e2] at h'; cases h'
      · rw [if_neg e2] at h'; exact .inr ⟨e, fun e3 => e2 ⟨e3, hid0⟩, h'⟩
  have hren : ∀ j m, (ρ.ext H.nx (some l')) j = some (some m) → (j = H.nx ∧ m = l') ∨ (j ≠ H.nx ∧ ρ j = some (some m)) := fun j m h => by
    simp only [Ren.ext] at h
    split at h
    · rename_i e; simp only [Option.some.injEq] at h; exact .inl ⟨e, h.symm⟩
    · rename_i e; exact .inr ⟨e, h⟩
  have hidnx : id ≠ H.nx := fun e => by rw [e, hf.2] at hB; cases hB
  refine ⟨⟨?_, ?_, ?_, ?_, ?_, ?_, ?_⟩, ⟨hle, ?_, by omega, ?_, ?_, ?_, fun _ _ _ h => .inl h, henv⟩⟩
  · intro j hj
    simp only [AH.push, hnxk] at hj
    have h1 := hR.fresh j (by omega)
    have hne : j ≠ H.nx := by omega
    refine ⟨by simp only [Ren.ext, hne, if_false]; exact h1.1, ?_⟩
    show (if j = H.nx then some B' else if j = id ∧ id ≠ 0 then none else H.m j) = none
    rw [if_neg hne]
    by_cases e2 : j = id ∧ id ≠ 0
    · rw [if_pos e2]
    · rw [if_neg e2]; exact h1.2
  · refine ⟨?_, by simp only [Ren.ext, Nat.ne_of_lt hpos, if_false]; exact hR.nil.2⟩
    show (if 0 = H.nx then some B' else if 0 = id ∧ id ≠ 0 then none else H.m 0) = some nilBlk
    rw [if_neg (by omega), if_neg (by omega)]
    exact hR.nil.1
  · intro j C h
    rcases hget j C h with ⟨rfl, rfl⟩ | ⟨h1, h2, h3⟩
    · refine ⟨some l', by simp [Ren.ext], ?_⟩
      simp only
      exact ⟨hok.k, hok.len, hok.cap, hok.wid, fun i r hr j v hv => let ⟨cv, k1, k2⟩ := hok.cel i r hr j v hv; ⟨cv, k1, VR.mono hle _ _ k2⟩, hok.wr, hok.fit⟩
    · obtain ⟨x, hx, hm⟩ := hR.blk j C h3
      refine ⟨x, hle.l _ _ hx, ?_⟩
      cases x with
      | none => exact hm
      | some m =>
        refine BlkOk.mono hm hle (hoth _ ?_) (by omega)
        exact (hR.sep id j B C l m hB h3 hl hx ho (Ne.symm h2)).symm
  · intro j j' C C' m m' h1 h2 h3 h4 h5 h6
    rcases hget j C h1 with ⟨e1, _⟩ | ⟨n1, n2, g1⟩ <;> rcases hget j' C' h2 with ⟨e2, _⟩ | ⟨n1', n2', g2⟩
    · exact absurd (e1.trans e2.symm) h6
    · rcases hren _ _ h3 with ⟨_, rfl⟩ | ⟨hc, _⟩
      · rcases hren _ _ h4 with ⟨hc, _⟩ | ⟨_, h4⟩
        · exact absurd hc n1'
        · rw [hb]; exact hR.sep id j' B C' l m' hB g2 hl h4 ho (Ne.symm n2')
      · exact absurd e1 hc
    · rcases hren _ _ h4 with ⟨_, rfl⟩ | ⟨hc, _⟩
      · rcases hren _ _ h3 with ⟨hc, _⟩ | ⟨_, h3⟩
        · exact absurd hc n1
        · rw [hb]; exact hR.sep j id C B m l g1 hB h3 hl h5 n2
      · exact absurd e2 hc
    · rcases hren _ _ h3 with ⟨hc, _⟩ | ⟨_, h3⟩
      · exact absurd hc n1
      rcases hren _ _ h4 with ⟨hc, _⟩ | ⟨_, h4⟩
      · exact absurd hc n1'
      exact hR.sep _ _ C C' m m' g1 g2 h3 h4 h5 h6
  · intro j m hm
    rcases hren _ _ hm with ⟨_, rfl⟩ | ⟨_, hm⟩
    · rw [hsz, hb]; exact hR.fit id l hl
    · rw [hsz]; exact hR.fit j m hm
  · intro b o v h
    obtain ⟨h1, h2⟩ := hR.con b o v h
    refine ⟨?_, by omega⟩
    rw [cell?_same (hoth b fun e => ?_)]
    · exact h1
    · subst e
      have := hR.conOwn id B l hB hl ho o
      rw [show ρ.con l.b o = some v from h] at this; cases this
  · intro j C m h1 h2 h3 o
    rcases hren _ _ h2 with ⟨_, rfl⟩ | ⟨n0, h2⟩
    · rw [hb]; exact hR.conOwn id B l hB hl ho o
    · rcases hget j C h1 with ⟨e1, _⟩ | ⟨_, _, g1⟩
      · exact absurd e1 n0
      · exact hR.conOwn j C m g1 h2 h3 o
  · simp [AH.push, hnxk]
  · intro b _ hno
    exact hoth b (fun e => hno id l hW hl e.symm)
  · intro j C m h1 h2 h3
    rcases hget j C h1 with ⟨rfl, _⟩ | ⟨n1, n2, g1⟩
    · rcases hren _ _ h3 with ⟨_, rfl⟩ | ⟨hc, _⟩
      · exact .inr ⟨id, l, ⟨B, hB, ho⟩, .inr hW, hl, hb.symm⟩
      · exact absurd rfl hc
    · rcases hren _ _ h3 with ⟨hc, _⟩ | ⟨_, h3⟩
      · exact absurd hc n1
      · exact .inr ⟨j, m, ⟨C, g1, h2⟩, .inl rfl, h3, rfl⟩
  · intro j C h1 h2
    rcases hget j C h1 with ⟨_, rfl⟩ | ⟨_, _, g1⟩
    · rw [ho'] at h2; cases h2
    · exact g1

/-- A block without rows, which lies nowhere. -/
theorem Rel.pushNone (hR : Rel ρ H w) (k : Nat) (W : Nat → Prop) :
    Rel (ρ.ext H.nx none) (H.push ⟨k, true, []⟩) w ∧ Reach W ρ H w (ρ.ext H.nx none) (H.push ⟨k, true, []⟩) w := by
  have hf := hR.fresh H.nx (Nat.le_refl _)
  have hle : ρ.Le (ρ.ext H.nx none) := Ren.Le.ext hf.1
  have hpos := hR.nx_pos
  have hget : ∀ j C, (H.push ⟨k, true, []⟩).m j = some C → (j = H.nx ∧ C = ⟨k, true, []⟩) ∨ (j ≠ H.nx ∧ H.m j = some C) := fun j C h => by
    simp only [AH.push] at h
    split at h
    · rename_i e; exact .inl ⟨e, by simpa using h.symm⟩
    · rename_i e; exact .inr ⟨e, h⟩
  have hren : ∀ j m, (ρ.ext H.nx none) j = some (some m) → j ≠ H.nx ∧ ρ j = some (some m) := fun j m h => by
    simp only [Ren.ext] at h
    split at h
    · simp at h
    · rename_i e; exact ⟨e, h⟩
  refine ⟨⟨?_, ?_, ?_, ?_, fun j m hm => hR.fit j m (hren j m hm).2, hR.con, fun j C m h1 h2 h3 => ?_⟩, ⟨hle, by simp [AH.push], Nat.le_refl _, fun _ _ _ => rfl, ?_, ?_, fun _ _ _ h => .inl h, ⟨rfl, rfl, rfl⟩⟩⟩
  rotate_left 4
  · obtain ⟨n1, h2⟩ := hren _ _ h2
    rcases hget j C h1 with ⟨e, _⟩ | ⟨_, g1⟩
    · exact absurd e n1
    · exact hR.conOwn j C m g1 h2 h3
  rotate_left 2
  · intro j hj
    simp only [AH.push] at hj ⊢
    have h1 := hR.fresh j (by omega)
    have hne : j ≠ H.nx := by omega
    simp only [Ren.ext, hne, if_false]
    exact h1
  · simp only [AH.push, Ren.ext, Nat.ne_of_lt hpos, if_false]
    exact hR.nil
  · intro j C h
    rcases hget j C h with ⟨rfl, rfl⟩ | ⟨hne, h⟩
    · exact ⟨none, by simp [Ren.ext], rfl⟩
    · obtain ⟨x, hx, hm⟩ := hR.blk j C h
      refine ⟨x, hle.l _ _ hx, ?_⟩
      cases x with
      | none => exact hm
      | some l => exact BlkOk.mono hm hle rfl (Nat.le_refl _)
  · intro j j' C C' m m' h1 h2 h3 h4 h5 h6
    obtain ⟨n1, h3⟩ := hren _ _ h3
    obtain ⟨n2, h4⟩ := hren _ _ h4
    rcases hget j C h1 with ⟨e, _⟩ | ⟨_, g1⟩
    · exact absurd e n1
    rcases hget j' C' h2 with ⟨e, _⟩ | ⟨_, g2⟩
    · exact absurd e n2
    exact hR.sep _ _ C C' m m' g1 g2 h3 h4 h5 h6
  · intro j C m h1 h2 h3
    obtain ⟨n1, h3⟩ := hren _ _ h3
    rcases hget j C h1 with ⟨e, _⟩ | ⟨_, g1⟩
    · exact absurd e n1
    exact .inr ⟨j, m, ⟨C, g1, h2⟩, .inl rfl, h3, rfl⟩
  · intro j C h1 h2
    rcases hget j C h1 with ⟨_, rfl⟩ | ⟨_, g1⟩
    · cases h2
    · exact g1
end
end Go.Proofs.Ytamnlngihccgiaa.AM
