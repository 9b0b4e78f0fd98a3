/- Views: a value told by what lies in memory, once nobody writes there. -/
import Derived.Test.YtamnlngihccgiaaAmO
namespace Go.Proofs.Ytamnlngihccgiaa.AM
set_option linter.all false
open Go

mutual
theorem PV.refl {H : AH} {S : Nat → Prop} : ∀ d, PV H S d d
  | .q rows => by simp only [PV]; exact .inl ⟨rows, rfl, PVss.refl rows⟩
  | .pq r j => by simp only [PV]; exact .inl ⟨r, rfl, PVs.refl r⟩
  | .a cs => by simp only [PV]; exact ⟨cs, rfl, PVs.refl cs⟩
  | .t cs => by simp only [PV]; exact ⟨cs, rfl, PVs.refl cs⟩
  | .f g cap => by simp only [PV]; exact ⟨cap, rfl, PVs.refl cap⟩
  | .e ty x => by simp only [PV]; exact ⟨x, rfl, PV.refl x⟩
  | .b _ | .n .. | .s _ | .pn | .p .. | .l .. | .en | .u => by simp only [PV]
theorem PVs.refl {H : AH} {S : Nat → Prop} : ∀ ds, PVs H S ds ds
  | [] => by simp only [PVs]
  | d :: ds => by simp only [PVs]; exact ⟨d, ds, rfl, PV.refl d, PVs.refl ds⟩
theorem PVss.refl {H : AH} {S : Nat → Prop} : ∀ ds, PVss H S ds ds
  | [] => by simp only [PVss]
  | d :: ds => by simp only [PVss]; exact ⟨d, ds, rfl, PVs.refl d, PVss.refl ds⟩
end

theorem PVs.length {H : AH} {S : Nat → Prop} : ∀ {ds vs : List AV}, PVs H S ds vs → vs.length = ds.length
  | [], vs, h => by simp only [PVs] at h; rw [h]
  | d :: ds, vs, h => by
    simp only [PVs] at h
    obtain ⟨v, r, rfl, _, h2⟩ := h
    simp only [List.length_cons, PVs.length h2]
theorem PVs.get {H : AH} {S : Nat → Prop} : ∀ {ds vs : List AV}, PVs H S ds vs → ∀ (i : Nat) d, ds[i]? = some d → ∃ v, vs[i]? = some v ∧ PV H S d v
  | [], vs, _, i, d, hd => by simp at hd
  | d0 :: ds, vs, h, i, d, hd => by
    simp only [PVs] at h
    obtain ⟨v, r, rfl, h1, h2⟩ := h
    cases i with
    | zero => simp at hd; subst hd; exact ⟨v, by simp, h1⟩
    | succ i =>
      obtain ⟨u, hu, hr⟩ := PVs.get h2 i d (by simpa using hd)
      exact ⟨u, by simpa using hu, hr⟩
theorem PVss.length {H : AH} {S : Nat → Prop} : ∀ {ds vs : List (List AV)}, PVss H S ds vs → vs.length = ds.length
  | [], vs, h => by simp only [PVss] at h; rw [h]
  | d :: ds, vs, h => by
    simp only [PVss] at h
    obtain ⟨v, r, rfl, _, h2⟩ := h
    simp only [List.length_cons, PVss.length h2]
theorem PVss.get {H : AH} {S : Nat → Prop} : ∀ {ds vs : List (List AV)}, PVss H S ds vs → ∀ (i : Nat) d, ds[i]? = some d → ∃ v, vs[i]? = some v ∧ PVs H S d v
  | [], vs, _, i, d, hd => by simp at hd
  | d0 :: ds, vs, h, i, d, hd => by
    simp only [PVss] at h
    obtain ⟨v, r, rfl, h1, h2⟩ := h
    cases i with
    | zero => simp at hd; subst hd; exact ⟨v, by simp, h1⟩
    | succ i =>
      obtain ⟨u, hu, hr⟩ := PVss.get h2 i d (by simpa using hd)
      exact ⟨u, by simpa using hu, hr⟩

theorem PV.leaf {H : AH} {S : Nat → Prop} {d v : AV} (h : PV H S d v) (hl : d.leaf = true) : v.leaf = true := by
  cases d <;> simp only [AV.leaf, Bool.false_eq_true] at hl <;> simp only [PV] at h
  case q => rcases h with ⟨_, rfl, _⟩ | ⟨_, _, _, _, rfl, _⟩ <;> rfl
  case pq => rcases h with ⟨_, rfl, _⟩ | ⟨_, _, _, _, rfl, _⟩ <;> rfl
  case f => obtain ⟨_, rfl, _⟩ := h; rfl
  case e => obtain ⟨_, rfl, _⟩ := h; rfl
  all_goals subst h; rfl

section
variable {P : Program} {nt : Nat} {ρ0 : Ren} {H0 : AH} {w0 : World} {ρ : Ren} {fr : Fr} {H : AH} {a : Act} {w : World}

open Classical in
/-- What lies in the blocks S, written down. -/
noncomputable def Ren.snap (ρ : Ren) (S : Nat → Prop) (H : AH) (w : World) : Ren :=
  ⟨ρ.loc, fun b o => match ρ.con b o with
    | some v => some v
    | none => if ∃ id B l, S id ∧ H.m id = some B ∧ ρ id = some (some l) ∧ l.b = b then w.cell? ⟨b, o, none⟩ else none⟩

theorem Ren.snap_le (S : Nat → Prop) : ρ.Le (ρ.snap S H w) := ⟨fun _ _ h => h, fun b o v h => by simp only [Ren.snap, h]⟩
theorem Ren.snap_new (hR : Rel ρ H w) {S : Nat → Prop} {id : Nat} {B : Blk} {l : Loc} (hS : S id) (hB : H.m id = some B) (hl : ρ id = some (some l)) {o : Nat} {v : Value} (h : w.cell? ⟨l.b, o, none⟩ = some v) :
    (ρ.snap S H w).con l.b o = some v := by
  simp only [Ren.snap]
  split
  · rename_i u hu
    have := (hR.con _ _ _ hu).1
    rw [h] at this
    exact this.symm
  · rw [if_pos ⟨id, B, l, hS, hB, hl, rfl⟩, h]
theorem Ren.snap_con {S : Nat → Prop} {b o : Nat} {v : Value} (h : (ρ.snap S H w).con b o = some v) :
    ρ.con b o = some v ∨ ((∃ id B l, S id ∧ H.m id = some B ∧ ρ id = some (some l) ∧ l.b = b) ∧ w.cell? ⟨b, o, none⟩ = some v) := by
  simp only [Ren.snap] at h
  split at h
  · rename_i u hu; rw [hu]; exact .inl h
  · split at h
    · rename_i hex; exact .inr ⟨hex, h⟩
    · cases h

mutual
theorem VR.view (hR : Rel ρ H w) {S : Nat → Prop} : ∀ (d v : AV) (cv : Value), PV H S d v → VR ρ v cv → VR (ρ.snap S H w) d cv
  | .q rows, v, cv, h, hv => by
    simp only [PV] at h
    rcases h with ⟨rows', rfl, h⟩ | ⟨id, i, n, B, rfl, hid, hB, hin, h⟩
    · simp only [VR] at hv ⊢
      obtain ⟨vss, h1, h2⟩ := hv
      exact ⟨vss, VRss.view hR rows rows' vss h h1, h2.mono (Ren.snap_le S)⟩
    · have hlen := h.length
      have hn : rows.length = n := by rw [← hlen]; simp; omega
      obtain ⟨x, hx, hok⟩ := hR.blk id B hB
      simp only [VR] at hv ⊢
      obtain ⟨hv, _⟩ := hv
      rw [hx] at hv
      cases x with
      | none =>
        obtain ⟨rfl, rfl, az, rfl⟩ := hv
        have : rows = [] := List.eq_nil_of_length_eq_zero hn
        subst this
        exact ⟨[], by simp [VRss], .inl ⟨rfl, _, _, rfl⟩⟩
      | some l =>
        simp only at hok
        have hid' : S id := by
          rcases hid with h0 | h0
          · subst h0; rw [hR.nil.2] at hx; cases hx
          · exact h0
        obtain ⟨az, rfl, h1, h2, h3⟩ := hv.some
        -- the cells' values
        obtain ⟨row, hrow⟩ : ∃ row : Nat → List Value, row = fun t => (List.range l.k).map fun j => (w.cell? ⟨l.b, l.off + (i + t) * l.k + j, none⟩).getD undef := ⟨_, rfl⟩
        have hrl : ∀ t, (row t).length = l.k := fun t => by rw [hrow]; simp
        have hget : ∀ t, t < n → ∃ r, ((B.rows.drop i).take n)[t]? = some r ∧ r.length = l.k ∧ ∀ (j : Nat) x, r[j]? = some x → ∃ cv, (row t)[j]? = some cv ∧ w.cell? ⟨l.b, l.off + (i + t) * l.k + j, none⟩ = some cv ∧ VR ρ x cv := fun t ht => by
          obtain ⟨r, hr⟩ : ∃ r, B.rows[i + t]? = some r := ⟨_, List.getElem?_eq_getElem (by omega)⟩
          have hw := (hok.wid r (List.mem_of_getElem? hr)).1
          refine ⟨r, by simpa [List.getElem?_take, ht, List.getElem?_drop] using hr, by rw [hw, hok.k], fun j x hx => ?_⟩
          have hjk : j < l.k := by have := (List.getElem?_eq_some_iff.1 hx).1; rw [hok.k]; omega
          obtain ⟨cv', hc1, hc2⟩ := hok.cel (i + t) r hr j x hx
          exact ⟨cv', by rw [hrow]; simp [hjk, hc1], hc1, hc2⟩
        have hold : VRss ρ ((B.rows.drop i).take n) ((List.range n).map row) := VRss.of_get (by simp; omega) fun t r hr => by
          have ht : t < n := by have := (List.getElem?_eq_some_iff.1 hr).1; simp at this; omega
          obtain ⟨r', hr', hlr, hg⟩ := hget t ht
          rw [hr] at hr'
          simp only [Option.some.injEq] at hr'
          subst hr'
          exact ⟨row t, by simp [ht], VRs.of_get (by rw [hrl, hlr]) fun j x hx => let ⟨cv, c1, _, c3⟩ := hg j x hx; ⟨cv, c1, c3⟩⟩
        refine ⟨_, VRss.view hR rows _ _ h hold, ?_⟩
        rcases Nat.eq_zero_or_pos n with hn0 | hn0
        · subst hn0; exact .inl ⟨by simp, _, _, rfl⟩
        · refine .inr ⟨l.b, l.off + i * l.k, l.k, l.cap - i, ?_, ?_, ?_, ?_⟩
          · intro e
            have := congrArg List.length e
            simp at this; omega
          · rw [h3 (by omega)]; simp
          · simp; omega
          · intro t r hr
            have ht : t < n := by have := (List.getElem?_eq_some_iff.1 hr).1; simpa using this
            simp only [List.getElem?_map, List.getElem?_range ht, Option.map_some, Option.some.injEq] at hr
            subst hr
            refine ⟨hrl t, fun j cv hj => ?_⟩
            have hjk : j < l.k := by have := (List.getElem?_eq_some_iff.1 hj).1; rw [hrl] at this; exact this
            obtain ⟨r', hr', hlr, hg⟩ := hget t ht
            obtain ⟨cv', c1, c2, _⟩ := hg j _ (List.getElem?_eq_getElem (by rw [hlr]; exact hjk))
            rw [hj] at c1
            simp only [Option.some.injEq] at c1
            subst c1
            have he : l.off + (i + t) * l.k + j = l.off + i * l.k + t * l.k + j := by rw [Nat.add_mul]; omega
            rw [← he]
            exact Ren.snap_new hR hid' hB hx c2
  | .pq r j, v, cv, h, hv => by
    simp only [PV] at h
    rcases h with ⟨r', rfl, h⟩ | ⟨id, i, B, r', rfl, hid, hB, hr, h⟩
    · simp only [VR] at hv ⊢
      obtain ⟨vs, b, o, h1, e, h2⟩ := hv
      exact ⟨vs, b, o, VRs.view hR r r' vs h h1, e, fun i cv hi => (Ren.snap_le S).c _ _ _ (h2 i cv hi)⟩
    · simp only [VR] at hv ⊢
      obtain ⟨l, hl, e⟩ := hv
      obtain ⟨x, hx, hok⟩ := hR.blk id B hB
      rw [hl] at hx
      simp only [Option.some.injEq] at hx
      subst hx
      simp only at hok
      have hw := (hok.wid r' (List.mem_of_getElem? hr)).1
      have hg : ∀ (j : Nat) x, r'[j]? = some x → ∃ cv, w.cell? ⟨l.b, l.off + i * l.k + j, none⟩ = some cv ∧ VR ρ x cv := hok.cel i r' hr
      have hold : VRs ρ r' ((List.range r'.length).map fun j => (w.cell? ⟨l.b, l.off + i * l.k + j, none⟩).getD undef) := VRs.of_get (by simp) fun j x hx => by
        have hj := (List.getElem?_eq_some_iff.1 hx).1
        obtain ⟨cv', c1, c2⟩ := hg j x hx
        exact ⟨cv', by simp [hj, c1], c2⟩
      refine ⟨_, l.b, l.off + i * l.k, VRs.view hR r r' _ h hold, e, fun j cv hj => ?_⟩
      have hjk : j < r'.length := by have := (List.getElem?_eq_some_iff.1 hj).1; simpa using this
      obtain ⟨cv', c1, _⟩ := hg j _ (List.getElem?_eq_getElem hjk)
      simp only [List.getElem?_map, List.getElem?_range hjk, Option.map_some, c1, Option.getD_some, Option.some.injEq] at hj
      subst hj
      exact Ren.snap_new hR hid hB hl c1
  | .a cs, v, cv, h, hv => by
    simp only [PV] at h
    obtain ⟨cs', rfl, h⟩ := h
    simp only [VR] at hv ⊢
    obtain ⟨vs, e, hs⟩ := hv
    exact ⟨vs, e, VRs.view hR cs cs' vs h hs⟩
  | .t cs, v, cv, h, hv => by
    simp only [PV] at h
    obtain ⟨cs', rfl, h⟩ := h
    simp only [VR] at hv ⊢
    obtain ⟨vs, e, hs⟩ := hv
    exact ⟨vs, e, VRs.view hR cs cs' vs h hs⟩
  | .f g cap, v, cv, h, hv => by
    simp only [PV] at h
    obtain ⟨cs', rfl, h⟩ := h
    simp only [VR] at hv ⊢
    obtain ⟨vs, e, hs⟩ := hv
    exact ⟨vs, e, VRs.view hR cap cs' vs h hs⟩
  | .e ty x, v, cv, h, hv => by
    simp only [PV] at h
    obtain ⟨x', rfl, h⟩ := h
    simp only [VR] at hv ⊢
    obtain ⟨y, e, hs⟩ := hv
    exact ⟨y, e, VR.view hR x x' y h hs⟩
  | .b _, v, cv, h, hv => by simp only [PV] at h; subst h; exact VR.mono (Ren.snap_le S) _ _ hv
  | .n .., v, cv, h, hv => by simp only [PV] at h; subst h; exact VR.mono (Ren.snap_le S) _ _ hv
  | .s _, v, cv, h, hv => by simp only [PV] at h; subst h; exact VR.mono (Ren.snap_le S) _ _ hv
  | .pn, v, cv, h, hv => by simp only [PV] at h; subst h; exact VR.mono (Ren.snap_le S) _ _ hv
  | .p .., v, cv, h, hv => by simp only [PV] at h; subst h; exact VR.mono (Ren.snap_le S) _ _ hv
  | .l .., v, cv, h, hv => by simp only [PV] at h; subst h; exact VR.mono (Ren.snap_le S) _ _ hv
  | .en, v, cv, h, hv => by simp only [PV] at h; subst h; exact VR.mono (Ren.snap_le S) _ _ hv
  | .u, v, cv, h, hv => by simp only [VR]
theorem VRs.view (hR : Rel ρ H w) {S : Nat → Prop} : ∀ (ds vs : List AV) (cvs : List Value), PVs H S ds vs → VRs ρ vs cvs → VRs (ρ.snap S H w) ds cvs
  | [], vs, cvs, h, hv => by simp only [PVs] at h; subst h; simpa only [VRs] using hv
  | d :: ds, vs, cvs, h, hv => by
    simp only [PVs] at h
    obtain ⟨v, r, rfl, h1, h2⟩ := h
    simp only [VRs] at hv ⊢
    obtain ⟨cv, cr, rfl, h3, h4⟩ := hv
    exact ⟨cv, cr, rfl, VR.view hR d v cv h1 h3, VRs.view hR ds r cr h2 h4⟩
theorem VRss.view (hR : Rel ρ H w) {S : Nat → Prop} : ∀ (ds vs : List (List AV)) (cvs : List (List Value)), PVss H S ds vs → VRss ρ vs cvs → VRss (ρ.snap S H w) ds cvs
  | [], vs, cvs, h, hv => by simp only [PVss] at h; subst h; simpa only [VRss] using hv
  | d :: ds, vs, cvs, h, hv => by
    simp only [PVss] at h
    obtain ⟨v, r, rfl, h1, h2⟩ := h
    simp only [VRss] at hv ⊢
    obtain ⟨cv, cr, rfl, h3, h4⟩ := hv
    exact ⟨cv, cr, rfl, VRs.view hR d v cv h1 h3, VRss.view hR ds r cr h2 h4⟩
end
end
end Go.Proofs.Ytamnlngihccgiaa.AM
