/- Blocks given up: what was told by number is told by content. -/
import Derived.Test.YtamnlngihccgiaaAmPa
namespace Go.Proofs.Ytamnlngihccgiaa.AM
set_option linter.all false
open Go
section
variable {P : Program} {nt : Nat} {ρ0 : Ren} {H0 : AH} {w0 : World} {ρ : Ren} {fr : Fr} {H : AH} {a : Act} {w : World}

theorem Fz.rel (hR : Rel ρ H w) {S : List Nat} {fr' : Fr} {H' : AH} (h : Fz S fr H fr' H') :
    Rel (ρ.snap (· ∈ S) H w) H' w ∧ Reach (ownP H) ρ H w (ρ.snap (· ∈ S) H w) H' w := by
  have hle : ρ.Le (ρ.snap (· ∈ S) H w) := Ren.snap_le _
  refine ⟨⟨?_, ?_, ?_, ?_, hR.fit, ?_, ?_⟩, ⟨hle, Nat.le_of_eq h.nx.symm, Nat.le_refl _, fun _ _ _ => rfl, ?_, ?_, ?_, ⟨rfl, rfl, rfl⟩⟩⟩
  · intro id hid
    exact ⟨(hR.fresh id (by rw [← h.nx]; exact hid)).1, H'.ok id hid⟩
  · exact ⟨h.nil.trans hR.nil.1, hR.nil.2⟩
  · intro j B' hB'
    obtain ⟨hj, B, hB, hk, ho, hp, hlf, hro⟩ := h.blk j B' hB'
    obtain ⟨x, hx, hok⟩ := hR.blk j B hB
    have hlen := hp.length
    refine ⟨x, hx, ?_⟩
    cases x with
    | none =>
      simp only at hok ⊢
      rw [hok] at hlen
      exact List.eq_nil_of_length_eq_zero (by simpa using hlen.symm)
    | some l =>
      simp only at hok ⊢
      refine ⟨hok.k.trans hk.symm, hok.len.trans hlen, hok.cap, fun r hr => ⟨?_, hlf r hr⟩, ?_, fun hoo => hok.wr (ho ▸ hoo), hok.fit⟩
      · obtain ⟨i, hi⟩ := List.getElem?_of_mem hr
        obtain ⟨r', hr', hrr⟩ := hp.get i r hi
        rw [hk, ← (hok.wid r' (List.mem_of_getElem? hr')).1, hrr.length]
      · intro i r hr q v hv
        obtain ⟨r', hr', hrr⟩ := hp.get i r hr
        obtain ⟨v', hv', hvv⟩ := hrr.get q v hv
        obtain ⟨cv, c1, c2⟩ := hok.cel i r' hr' q v' hv'
        exact ⟨cv, c1, VR.view hR _ _ _ hvv c2⟩
  · intro id id' B B' l l' h1 h2 h3 h4 h5 h6
    obtain ⟨_, C, hC, _, ho, _⟩ := h.blk id B h1
    obtain ⟨_, C', hC', _⟩ := h.blk id' B' h2
    exact hR.sep id id' C C' l l' hC hC' h3 h4 (ho ▸ h5) h6
  · intro b o v hb
    rcases Ren.snap_con hb with hb | ⟨⟨id, B, l, _, hB, hl, rfl⟩, hc⟩
    · exact hR.con b o v hb
    · exact ⟨hc, hR.fit id l hl⟩
  · intro id B l h1 h2 h3 o
    obtain ⟨hj, C, hC, _, ho, _⟩ := h.blk id B h1
    have hoC : C.own = true := ho ▸ h3
    cases e : (ρ.snap (· ∈ S) H w).con l.b o with
    | none => rfl
    | some v =>
      rcases Ren.snap_con e with hb | ⟨⟨id', B', l', hS', hB', hl', heq⟩, _⟩
      · rw [hR.conOwn id C l hC h2 hoC o] at hb; cases hb
      · exact absurd heq.symm (hR.sep id id' C B' l l' hC hB' h2 hl' hoC (fun e => hj (e ▸ hS')))
  · intro id B l h1 h2 h3
    obtain ⟨_, C, hC, _, ho, _⟩ := h.blk id B h1
    exact .inr ⟨id, l, ⟨C, hC, ho ▸ h2⟩, .inl rfl, h3, rfl⟩
  · intro id B h1 h2
    obtain ⟨_, C, hC, _, ho, _, _, hro⟩ := h.blk id B h1
    rw [hro (ho ▸ h2)]; exact hC
  · intro b o v hb
    rcases Ren.snap_con hb with hb | ⟨⟨id, B, l, hS', hB, hl, e⟩, _⟩
    · exact .inl hb
    · obtain ⟨_, C, hC, ho⟩ := h.own id hS'
      exact .inr (.inr ⟨id, l, ⟨C, hC, ho⟩, ⟨C, hC, ho⟩, hl, e⟩)

theorem Fz.sound {S : List Nat} {fr' : Fr} {H' : AH} (h : Fz S fr H fr' H') (hS : St nt ρ0 H0 w0 ρ fr H a w) : ∃ ρ', St nt ρ0 H0 w0 ρ' fr' H' a w := by
  obtain ⟨h1, h2⟩ := h.rel hS.rel
  exact ⟨_, ⟨fun t ht => VR.view hS.rel _ _ _ (h.fr t) (hS.fr t ht), hS.sz, h1, hS.re.trans (fun _ h => h) h2, hS.df⟩⟩
end
end Go.Proofs.Ytamnlngihccgiaa.AM
