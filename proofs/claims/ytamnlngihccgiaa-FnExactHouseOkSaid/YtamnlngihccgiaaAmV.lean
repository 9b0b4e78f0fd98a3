/- A law's arguments, as the row tells of them, told as values. -/
import Derived.Test.YtamnlngihccgiaaAmU
import Derived.RowKit
import Derived.Carry
namespace Go.Proofs.Ytamnlngihccgiaa.AM
set_option linter.all false
open Go

/-- Kinds of cells: bools, numbers, strings, slices of rows of cells. -/
inductive CT where
  | b
  | i (k : IntKind)
  | s
  | q (cs : List CT)

mutual
def Is : CT → AV → Prop
  | .b, v => ∃ x, v = .b x
  | .i k, v => ∃ x, v = .n k x ∧ (Lit.int k x).wf = true
  | .s, v => ∃ x : ByteArray, v = .s x ∧ x.size ≤ maxLen
  | .q cs, v => ∃ rows, v = .q rows ∧ rows.length ≤ maxLen ∧ ∀ r ∈ rows, Iss cs r
def Iss : List CT → List AV → Prop
  | [], vs => vs = []
  | c :: cs, vs => ∃ v r, vs = v :: r ∧ Is c v ∧ Iss cs r
end

theorem Iss.length : ∀ {cs : List CT} {vs : List AV}, Iss cs vs → vs.length = cs.length
  | [], vs, h => by simp only [Iss] at h; rw [h]; rfl
  | c :: cs, vs, h => by
    simp only [Iss] at h
    obtain ⟨v, r, rfl, _, h2⟩ := h
    simp only [List.length_cons, Iss.length h2]
theorem Iss.append : ∀ {cs : List CT} {vs : List AV} {ds : List CT} {us : List AV}, Iss cs vs → Iss ds us → Iss (cs ++ ds) (vs ++ us)
  | [], vs, ds, us, h, h' => by simp only [Iss] at h; subst h; simpa using h'
  | c :: cs, vs, ds, us, h, h' => by
    simp only [Iss] at h
    obtain ⟨v, r, rfl, h1, h2⟩ := h
    simp only [List.cons_append, Iss]
    exact ⟨v, r ++ us, rfl, h1, Iss.append h2 h'⟩

def fieldsCt (P : Program) (f : TypeId → Option (List CT)) : List Field → Nat → Option (List CT)
  | [], _ => some []
  | fd :: fs, off => if fd.offset = off then match f fd.type with
      | some c => if c.length = P.cellsOf fd.type then (fieldsCt P f fs (off + c.length)).map (c ++ ·) else none
      | none => none
    else none
def ctOf (P : Program) : Nat → TypeId → Option (List CT)
  | 0, _ => none
  | n + 1, t => match P.underlying t with
    | some .bool => some [.b]
    | some (.int k) => some [.i k]
    | some .string => some [.s]
    | some (.slice e) => match ctOf P n e with
      | some cs => if cs.length = P.cellsOf e ∧ 0 < cs.length then some [.q cs] else none
      | none => none
    | some (.struct fs) => match fieldsCt P (ctOf P n) fs.toList 0 with
      | some cs => if cs.length = P.cellsOf t then some cs else none
      | none => none
    | _ => none

section
variable {H : Type} {enc : TypeId × Value → H} {P : Program} {w : World} {base : Nat} {spare : Nat → Bool} {held : Bool} {ρ : Ren}

theorem cell_spot {a : Addr} {n : Nat} {v : Value} (h : w.cell? (a.add n) = some v) (hn : n = 0) : a = ⟨a.block, a.off, none⟩ := by
  subst hn
  simp only [Addr.add, if_true] at h
  unfold World.cell? at h
  split at h
  · split at h
    · cases h
    · rename_i hs
      cases a
      simp at hs
      simp [hs]
  · cases h

theorem trod_fields {f : TypeId → List Value → Option (DataW H × List MemPlace)} {g : TypeId → Option (List CT)}
    (ih : ∀ t cs x c, f t cs = some x → g t = some c → ∃ vs, VRs ρ vs cs ∧ Iss c vs) (cs : List Value) : ∀ (fs : List Field) (off : Nat) (c : List CT),
    fieldsCt P g fs off = some c → (∀ fd ∈ fs, ∃ x, f fd.type ((cs.drop fd.offset).take (P.cellsOf fd.type)) = some x) → ∃ vs, VRs ρ vs ((cs.drop off).take c.length) ∧ Iss c vs
  | [], off, c, h, _ => by
    simp only [fieldsCt, Option.some.injEq] at h
    subst h
    exact ⟨[], by simp [VRs], by simp [Iss]⟩
  | fd :: fs, off, c, h, hm => by
    simp only [fieldsCt] at h
    split at h
    case isFalse => cases h
    rename_i hoff
    split at h
    case h_2 => cases h
    rename_i c1 hc1
    split at h
    case isFalse => cases h
    rename_i hlen
    simp only [Option.map_eq_some_iff] at h
    obtain ⟨c2, hc2, rfl⟩ := h
    obtain ⟨x, hx⟩ := hm fd (by simp)
    rw [hoff, ← hlen] at hx
    obtain ⟨vs1, h1, h2⟩ := ih _ _ _ _ hx hc1
    obtain ⟨vs2, h3, h4⟩ := trod_fields ih cs fs _ c2 hc2 (fun fd hfd => hm fd (by simp [hfd]))
    refine ⟨vs1 ++ vs2, ?_, h2.append h4⟩
    have : (cs.drop off).take (c1 ++ c2).length = (cs.drop off).take c1.length ++ (cs.drop (off + c1.length)).take c2.length := by
      rw [List.length_append, List.take_add, List.drop_drop]
    rw [this]
    exact h1.append h3

theorem cells_get {a : Addr} {n : Nat} {l : List Value} (h : w.cells? base a n = some l) : l.length = n ∧ ∀ (j : Nat) v, l[j]? = some v → w.cell? (a.add j) = some v := by
  unfold World.cells? at h
  split at h
  case isFalse => cases h
  have key : ∀ (is : List Nat) (l : List Value), is.mapM (fun i => w.cell? (a.add i)) = some l → l.length = is.length ∧ ∀ (j : Nat) v, l[j]? = some v → ∃ i, is[j]? = some i ∧ w.cell? (a.add i) = some v := by
    intro is
    induction is with
    | nil => intro l h; simp at h; subst h; simp
    | cons i is ih =>
      intro l h
      simp only [List.mapM_cons, Option.bind_eq_bind, Option.bind_eq_some_iff, Option.pure_def, Option.some.injEq] at h
      obtain ⟨y, hy, r, hr, rfl⟩ := h
      obtain ⟨h1, h2⟩ := ih r hr
      refine ⟨by simp [h1], fun j v hj => ?_⟩
      cases j with
      | zero => simp at hj; subst hj; exact ⟨i, by simp, hy⟩
      | succ j => simpa using h2 j v (by simpa using hj)
  obtain ⟨h1, h2⟩ := key _ _ h
  refine ⟨by simpa using h1, fun j v hj => ?_⟩
  obtain ⟨i, hi, hv⟩ := h2 j v hj
  have hjn : j < n := by have := (List.getElem?_eq_some_iff.1 hi).1; simpa using this
  rw [List.getElem?_range hjn] at hi
  simp only [Option.some.injEq] at hi
  rw [hi]; exact hv

theorem trod_view (hρ : ∀ b o v, w.cell? ⟨b, o, none⟩ = some v → ρ.con b o = some v) : ∀ (n fuel : Nat) (t : TypeId) (cs : List Value) (x : DataW H × List MemPlace) (c : List CT),
    DataW.trod enc P w base spare held fuel t cs = some x → ctOf P n t = some c → ∃ vs, VRs ρ vs cs ∧ Iss c vs
  | 0, _, _, _, _, _, _, h => by simp [ctOf] at h
  | n + 1, fuel, t, cs, x, c, h, hc => by
    simp only [ctOf] at hc
    cases hu : P.underlying t with
    | none => simp [hu] at hc
    | some d =>
      rw [hu] at hc
      cases d <;> simp only [reduceCtorEq, Option.some.injEq] at hc
      case bool =>
        subst hc
        obtain ⟨b, rfl, _⟩ := DataW.trod_bool hu h
        exact ⟨[.b b], by simp [VRs, VR], by simp [Iss, Is]⟩
      case int k =>
        subst hc
        obtain ⟨b, rfl, _, hw⟩ := DataW.trod_int hu h
        exact ⟨[.n k b], by simp [VRs, VR], by simp [Iss, Is, hw]⟩
      case string =>
        subst hc
        obtain ⟨b, rfl, _, hw⟩ := DataW.trod_string hu h
        exact ⟨[.s b], by simp [VRs, VR], by simp [Iss, Is, hw]⟩
      case slice e =>
        split at hc
        case h_2 => cases hc
        rename_i ce hce
        split at hc
        case isFalse => cases hc
        rename_i hlen
        simp only [Option.some.injEq] at hc
        subst hc
        rcases DataW.trod_slice hu h with ⟨rfl, _⟩ | ⟨a, len, cap, elems, rest, n', rfl, rfl, _, _, hlc, hcm, hel, hget, _⟩
        · exact ⟨[.q []], by simp only [VRs, VR]; exact ⟨_, _, rfl, ⟨[], by simp [VRss], .inl ⟨rfl, _, _, rfl⟩⟩, rfl⟩, by simp [Iss, Is]⟩
        · have one : ∀ i, i < len → ∃ (r : List AV) (rc : List Value), VRs ρ r rc ∧ Iss ce r ∧ w.cells? base (a.add (i * P.cellsOf e)) (P.cellsOf e) = some rc := fun i hi => by
            have h1 := hget i hi
            rw [List.getElem?_eq_getElem (by omega)] at h1
            simp only [Option.bind_eq_some_iff] at h1
            obtain ⟨rc, hrc, hx⟩ := h1
            obtain ⟨r, h2, h3⟩ := trod_view hρ n n' e rc _ ce hx hce
            exact ⟨r, rc, h2, h3, hrc⟩
          have all : ∀ m, m ≤ len → ∃ (rows : List (List AV)) (vss : List (List Value)), VRss ρ rows vss ∧ vss.length = m ∧ (∀ r ∈ rows, Iss ce r) ∧ ∀ (i : Nat) rc, vss[i]? = some rc → w.cells? base (a.add (i * P.cellsOf e)) (P.cellsOf e) = some rc := by
            intro m
            induction m with
            | zero => intro _; exact ⟨[], [], by simp [VRss], rfl, by simp, by simp⟩
            | succ m ihm =>
              intro hm
              obtain ⟨rows, vss, a1, a2, a3, a4⟩ := ihm (by omega)
              obtain ⟨r, rc, b1, b2, b3⟩ := one m (by omega)
              have hrl := a1.length
              refine ⟨rows ++ [r], vss ++ [rc], VRss.of_get (by simp [hrl]) fun i x hx => ?_, by simp [a2], fun r' hr' => ?_, fun i rc' hi => ?_⟩
              · rw [List.getElem?_append] at hx ⊢
                rw [hrl]
                split at hx
                · rename_i hlt; rw [if_pos hlt]; exact a1.get i x hx
                · rename_i hlt
                  rw [if_neg hlt]
                  have : i - rows.length = 0 := by have := (List.getElem?_eq_some_iff.1 hx).1; simp at this; omega
                  rw [this] at hx ⊢
                  simp at hx; subst hx
                  exact ⟨rc, by simp, b1⟩
              · rcases List.mem_append.1 hr' with h | h
                · exact a3 r' h
                · simp at h; subst h; exact b2
              · rw [List.getElem?_append] at hi
                split at hi
                · exact a4 i rc' hi
                · rename_i hlt
                  have : i - vss.length = 0 := by have := (List.getElem?_eq_some_iff.1 hi).1; simp at this; omega
                  have hi' : i = m := by omega
                  rw [this] at hi
                  simp at hi; subst hi; subst hi'
                  exact b3
          obtain ⟨rows, vss, a1, a2, a3, a4⟩ := all len (Nat.le_refl _)
          have hrl := a1.length
          refine ⟨[.q rows], ?_, ?_⟩
          · simp only [VRs, VR]
            refine ⟨_, _, rfl, ⟨vss, a1, ?_⟩, rfl⟩
            rcases Nat.eq_zero_or_pos len with h0 | h0
            · subst h0
              exact .inl ⟨List.eq_nil_of_length_eq_zero a2, _, _, rfl⟩
            · have ha : a = ⟨a.block, a.off, none⟩ := by
                obtain ⟨rc, hrc⟩ : ∃ rc, vss[0]? = some rc := ⟨_, List.getElem?_eq_getElem (by omega)⟩
                obtain ⟨c1, c2⟩ := cells_get (a4 0 rc hrc)
                have := c2 0 rc[0] (List.getElem?_eq_getElem (by rw [c1, ← hlen.1]; exact hlen.2))
                have e0 : (a.add (0 * P.cellsOf e)).add 0 = a := by simp [Addr.add]
                rw [e0] at this
                exact cell_spot (n := 0) (by simpa [Addr.add] using this) rfl
              refine .inr ⟨a.block, a.off, P.cellsOf e, cap, fun e => by subst e; simp at a2; omega, by rw [a2, ← ha], by omega, fun i r hr => ?_⟩
              obtain ⟨c1, c2⟩ := cells_get (a4 i r hr)
              refine ⟨c1, fun j cv hj => hρ _ _ _ ?_⟩
              have := c2 j cv hj
              rw [ha, add_addr, add_addr] at this
              exact this
          · simp only [Iss, Is]
            exact ⟨_, _, rfl, ⟨rows, rfl, by omega, a3⟩, rfl⟩
      case struct fs =>
        split at hc
        case h_2 => cases hc
        rename_i cf hcf
        split at hc
        case isFalse => cases hc
        rename_i hlen
        simp only [Option.some.injEq] at hc
        subst hc
        obtain ⟨xs, n', rfl, _, hcl, hxl, hget⟩ := DataW.trod_struct hu h
        obtain ⟨vs, h1, h2⟩ := trod_fields (P := P) (ρ := ρ) (f := DataW.trod enc P w base spare held n') (g := ctOf P n) (fun t cs x c hx hc => trod_view hρ n n' t cs x c hx hc) cs fs.toList 0 cf hcf (fun fd hfd => by
          obtain ⟨i, hi⟩ := List.getElem?_of_mem hfd
          have hi' : fs[i]? = some fd := by simpa using hi
          have hlt : i < xs.length := by rw [hxl]; exact (Array.getElem?_eq_some_iff.1 hi').1
          exact ⟨xs[i], by rw [hget i fd hi', List.getElem?_eq_getElem hlt]⟩)
        rw [List.drop_zero, List.take_of_length_le (by omega)] at h1
        exact ⟨vs, h1, h2⟩
end
end Go.Proofs.Ytamnlngihccgiaa.AM
