/- How the abstract machine's values and heaps stand for the model's: the relation between them, and how it is kept. -/
import Derived.Test.YtamnlngihccgiaaAmA
import Derived.Below
namespace Go.Proofs.Ytamnlngihccgiaa.AM
set_option linter.all false
open Go

/-- Where a block of the abstract heap lies: block b, from off on, rows of k cells, len of them known, room for cap. -/
structure Loc where
  b : Nat
  off : Nat
  k : Nat
  len : Nat
  cap : Nat
/-- Where the blocks lie; and what lies in cells that nobody writes any more. -/
structure Ren where
  loc : Nat → Option (Option Loc)
  con : Nat → Nat → Option Value
instance : CoeFun Ren (fun _ => Nat → Option (Option Loc)) := ⟨Ren.loc⟩
structure Ren.Le (ρ ρ' : Ren) : Prop where
  l : ∀ id x, ρ id = some x → ρ' id = some x
  c : ∀ b o v, ρ.con b o = some v → ρ'.con b o = some v
theorem Ren.Le.refl (ρ : Ren) : ρ.Le ρ := ⟨fun _ _ h => h, fun _ _ _ h => h⟩
theorem Ren.Le.trans {ρ ρ' ρ'' : Ren} (h : ρ.Le ρ') (h' : ρ'.Le ρ'') : ρ.Le ρ'' := ⟨fun id x e => h'.l id x (h.l id x e), fun b o v e => h'.c b o v (h.c b o v e)⟩

def SlR (x : Option (Option Loc)) (i n : Nat) (v : Value) : Prop :=
  match x with
  | none => False
  | some none => i = 0 ∧ n = 0 ∧ ∃ a, v = .slice a 0 0
  | some (some l) => ∃ a, v = .slice a n (l.cap - i) ∧ i + n ≤ l.len ∧ l.len ≤ l.cap ∧ (i < l.cap → a = some ⟨l.b, l.off + i * l.k, none⟩)

/-- A slice whose rows lie in cells that nobody writes. -/
def QR (ρ : Ren) (vss : List (List Value)) (v : Value) : Prop :=
  (vss = [] ∧ ∃ a c, v = .slice a 0 c) ∨
  ∃ b off k cap, vss ≠ [] ∧ v = .slice (some ⟨b, off, none⟩) vss.length cap ∧ vss.length ≤ cap ∧
    ∀ (i : Nat) r, vss[i]? = some r → r.length = k ∧ ∀ (j : Nat) cv, r[j]? = some cv → ρ.con b (off + i * k + j) = some cv
theorem QR.mono {ρ ρ' : Ren} (h : ρ.Le ρ') {vss : List (List Value)} {v : Value} (hv : QR ρ vss v) : QR ρ' vss v := by
  rcases hv with hv | ⟨b, off, k, cap, h1, h2, h3, h4⟩
  · exact .inl hv
  · exact .inr ⟨b, off, k, cap, h1, h2, h3, fun i r hr => ⟨(h4 i r hr).1, fun j cv hj => h.c _ _ _ ((h4 i r hr).2 j cv hj)⟩⟩

mutual
def VR (ρ : Ren) : AV → Value → Prop
  | .b x, v => v = .bool x
  | .n k x, v => v = .int k x
  | .s x, v => v = .string x
  | .pn, v => v = .pointer none
  | .p id i j, v => ∃ l, ρ id = some (some l) ∧ v = .pointer (some ⟨l.b, l.off + i * l.k + j, none⟩)
  | .l id i n, v => SlR (ρ id) i n v ∧ (id = 0 → v = .slice none 0 0)
  | .q rows, v => ∃ vss : List (List Value), VRss ρ rows vss ∧ QR ρ vss v
  | .pq r j, v => ∃ (vs : List Value) (b o : Nat), VRs ρ r vs ∧ v = .pointer (some ⟨b, o + j, none⟩) ∧ ∀ (i : Nat) cv, vs[i]? = some cv → ρ.con b (o + i) = some cv
  | .a cs, v => ∃ vs : List Value, v = .agg vs.toArray ∧ VRs ρ cs vs
  | .t cs, v => ∃ vs : List Value, v = .tuple vs.toArray ∧ VRs ρ cs vs
  | .f g cap, v => ∃ vs : List Value, v = .func (.func g) #[] vs.toArray ∧ VRs ρ cap vs
  | .en, v => v = .nilIface
  | .e ty x, v => ∃ y, v = .iface ty y ∧ VR ρ x y
  | .u, _ => True
def VRs (ρ : Ren) : List AV → List Value → Prop
  | [], vs => vs = []
  | c :: cs, vs => ∃ v r, vs = v :: r ∧ VR ρ c v ∧ VRs ρ cs r
def VRss (ρ : Ren) : List (List AV) → List (List Value) → Prop
  | [], vss => vss = []
  | c :: cs, vss => ∃ v r, vss = v :: r ∧ VRs ρ c v ∧ VRss ρ cs r
end

theorem SlR.mono {ρ ρ' : Ren} (h : ρ.Le ρ') {id i n : Nat} {v : Value} (hv : SlR (ρ id) i n v) : SlR (ρ' id) i n v := by
  cases e : ρ id with
  | none => rw [e] at hv; exact hv.elim
  | some x => rw [h.l id x e]; rw [e] at hv; exact hv

mutual
theorem VR.mono {ρ ρ' : Ren} (h : ρ.Le ρ') : ∀ (x : AV) (v : Value), VR ρ x v → VR ρ' x v
  | .b _, _, hv => by simpa only [VR] using hv
  | .n _ _, _, hv => by simpa only [VR] using hv
  | .s _, _, hv => by simpa only [VR] using hv
  | .pn, _, hv => by simpa only [VR] using hv
  | .p id i j, v, hv => by
    simp only [VR] at hv ⊢
    obtain ⟨l, hl, e⟩ := hv
    exact ⟨l, h.l _ _ hl, e⟩
  | .l id i n, v, hv => by simp only [VR] at hv ⊢; exact ⟨hv.1.mono h, hv.2⟩
  | .q rows, v, hv => by
    simp only [VR] at hv ⊢
    obtain ⟨vss, h1, h2⟩ := hv
    exact ⟨vss, VRss.mono h rows vss h1, h2.mono h⟩
  | .pq r j, v, hv => by
    simp only [VR] at hv ⊢
    obtain ⟨vs, b, o, h1, e, h2⟩ := hv
    exact ⟨vs, b, o, VRs.mono h r vs h1, e, fun i cv hi => h.c _ _ _ (h2 i cv hi)⟩
  | .a cs, v, hv => by
    simp only [VR] at hv ⊢
    obtain ⟨vs, e, hs⟩ := hv
    exact ⟨vs, e, VRs.mono h cs vs hs⟩
  | .t cs, v, hv => by
    simp only [VR] at hv ⊢
    obtain ⟨vs, e, hs⟩ := hv
    exact ⟨vs, e, VRs.mono h cs vs hs⟩
  | .f g cap, v, hv => by
    simp only [VR] at hv ⊢
    obtain ⟨vs, e, hs⟩ := hv
    exact ⟨vs, e, VRs.mono h cap vs hs⟩
  | .en, _, hv => by simpa only [VR] using hv
  | .e ty x, v, hv => by
    simp only [VR] at hv ⊢
    obtain ⟨y, e, hs⟩ := hv
    exact ⟨y, e, VR.mono h x y hs⟩
  | .u, _, _ => by simp only [VR]
theorem VRs.mono {ρ ρ' : Ren} (h : ρ.Le ρ') : ∀ (xs : List AV) (vs : List Value), VRs ρ xs vs → VRs ρ' xs vs
  | [], _, hv => by simpa only [VRs] using hv
  | x :: xs, vs, hv => by
    simp only [VRs] at hv ⊢
    obtain ⟨v, r, e, h1, h2⟩ := hv
    exact ⟨v, r, e, VR.mono h x v h1, VRs.mono h xs r h2⟩
theorem VRss.mono {ρ ρ' : Ren} (h : ρ.Le ρ') : ∀ (xs : List (List AV)) (vs : List (List Value)), VRss ρ xs vs → VRss ρ' xs vs
  | [], _, hv => by simpa only [VRss] using hv
  | x :: xs, vs, hv => by
    simp only [VRss] at hv ⊢
    obtain ⟨v, r, e, h1, h2⟩ := hv
    exact ⟨v, r, e, VRs.mono h x v h1, VRss.mono h xs r h2⟩
end

theorem VRss.length {ρ : Ren} : ∀ {xs : List (List AV)} {vs : List (List Value)}, VRss ρ xs vs → vs.length = xs.length
  | [], vs, h => by simp only [VRss] at h; rw [h]; rfl
  | x :: xs, vs, h => by
    simp only [VRss] at h
    obtain ⟨v, r, e, _, h2⟩ := h
    rw [e, List.length_cons, List.length_cons, VRss.length h2]
theorem VRss.get {ρ : Ren} : ∀ {xs : List (List AV)} {vs : List (List Value)}, VRss ρ xs vs → ∀ (i : Nat) (x : List AV), xs[i]? = some x → ∃ v, vs[i]? = some v ∧ VRs ρ x v
  | [], vs, _, i, x, hx => by simp at hx
  | y :: ys, vs, h, i, x, hx => by
    simp only [VRss] at h
    obtain ⟨v, r, rfl, h1, h2⟩ := h
    cases i with
    | zero => simp at hx; subst hx; exact ⟨v, by simp, h1⟩
    | succ i =>
      obtain ⟨u, hu, hr⟩ := VRss.get h2 i x (by simpa using hx)
      exact ⟨u, by simpa using hu, hr⟩
theorem VRss.of_get {ρ : Ren} : ∀ {xs : List (List AV)} {vs : List (List Value)}, vs.length = xs.length → (∀ (i : Nat) (x : List AV), xs[i]? = some x → ∃ v, vs[i]? = some v ∧ VRs ρ x v) → VRss ρ xs vs
  | [], vs, h, _ => by simp only [VRss]; exact List.eq_nil_of_length_eq_zero h
  | y :: ys, vs, h, hg => by
    cases vs with
    | nil => simp at h
    | cons v r =>
      simp only [VRss]
      refine ⟨v, r, rfl, ?_, VRss.of_get (by simpa using h) fun i x hx => ?_⟩
      · obtain ⟨u, hu, hr⟩ := hg 0 y (by simp)
        simp at hu; subst hu; exact hr
      · obtain ⟨u, hu, hr⟩ := hg (i + 1) x (by simpa using hx)
        exact ⟨u, by simpa using hu, hr⟩
theorem VRss.take {ρ : Ren} : ∀ {xs : List (List AV)} {vs : List (List Value)} (n : Nat), VRss ρ xs vs → VRss ρ (xs.take n) (vs.take n)
  | [], vs, n, h => by simp only [VRss] at h; subst h; simp [VRss]
  | x :: xs, vs, 0, h => by simp [VRss]
  | x :: xs, vs, n + 1, h => by
    simp only [VRss] at h
    obtain ⟨v, r, rfl, h1, h2⟩ := h
    simp only [List.take_succ_cons, VRss]
    exact ⟨v, r.take n, rfl, h1, VRss.take n h2⟩
theorem VRss.drop {ρ : Ren} : ∀ {xs : List (List AV)} {vs : List (List Value)} (n : Nat), VRss ρ xs vs → VRss ρ (xs.drop n) (vs.drop n)
  | [], vs, n, h => by simp only [VRss] at h; subst h; simp [VRss]
  | x :: xs, vs, 0, h => by simpa using h
  | x :: xs, vs, n + 1, h => by
    simp only [VRss] at h
    obtain ⟨v, r, rfl, h1, h2⟩ := h
    simpa using VRss.drop n h2

theorem VRs.length {ρ : Ren} : ∀ {xs : List AV} {vs : List Value}, VRs ρ xs vs → vs.length = xs.length
  | [], vs, h => by simp only [VRs] at h; rw [h]; rfl
  | x :: xs, vs, h => by
    simp only [VRs] at h
    obtain ⟨v, r, e, _, h2⟩ := h
    rw [e, List.length_cons, List.length_cons, VRs.length h2]
theorem VRs.get {ρ : Ren} : ∀ {xs : List AV} {vs : List Value}, VRs ρ xs vs → ∀ (i : Nat) (x : AV), xs[i]? = some x → ∃ v, vs[i]? = some v ∧ VR ρ x v
  | [], vs, _, i, x, hx => by simp at hx
  | y :: ys, vs, h, i, x, hx => by
    simp only [VRs] at h
    obtain ⟨v, r, rfl, h1, h2⟩ := h
    cases i with
    | zero => simp at hx; subst hx; exact ⟨v, by simp, h1⟩
    | succ i =>
      obtain ⟨u, hu, hr⟩ := VRs.get h2 i x (by simpa using hx)
      exact ⟨u, by simpa using hu, hr⟩
theorem VRs.of_get {ρ : Ren} : ∀ {xs : List AV} {vs : List Value}, vs.length = xs.length → (∀ (i : Nat) (x : AV), xs[i]? = some x → ∃ v, vs[i]? = some v ∧ VR ρ x v) → VRs ρ xs vs
  | [], vs, h, _ => by simp only [VRs]; exact List.eq_nil_of_length_eq_zero h
  | y :: ys, vs, h, hg => by
    cases vs with
    | nil => simp at h
    | cons v r =>
      simp only [VRs]
      refine ⟨v, r, rfl, ?_, VRs.of_get (by simpa using h) fun i x hx => ?_⟩
      · obtain ⟨u, hu, hr⟩ := hg 0 y (by simp)
        simp at hu; subst hu; exact hr
      · obtain ⟨u, hu, hr⟩ := hg (i + 1) x (by simpa using hx)
        exact ⟨u, by simpa using hu, hr⟩
theorem VRs.append {ρ : Ren} : ∀ {xs : List AV} {vs : List Value} {ys : List AV} {us : List Value}, VRs ρ xs vs → VRs ρ ys us → VRs ρ (xs ++ ys) (vs ++ us)
  | [], vs, ys, us, h, h' => by simp only [VRs] at h; subst h; simpa using h'
  | x :: xs, vs, ys, us, h, h' => by
    simp only [VRs] at h
    obtain ⟨v, r, rfl, h1, h2⟩ := h
    simp only [List.cons_append, VRs]
    exact ⟨v, r ++ us, rfl, h1, VRs.append h2 h'⟩
theorem VRs.take {ρ : Ren} : ∀ {xs : List AV} {vs : List Value} (n : Nat), VRs ρ xs vs → VRs ρ (xs.take n) (vs.take n)
  | [], vs, n, h => by simp only [VRs] at h; subst h; simp [VRs]
  | x :: xs, vs, 0, h => by simp [VRs]
  | x :: xs, vs, n + 1, h => by
    simp only [VRs] at h
    obtain ⟨v, r, rfl, h1, h2⟩ := h
    simp only [List.take_succ_cons, VRs]
    exact ⟨v, r.take n, rfl, h1, VRs.take n h2⟩
theorem VRs.drop {ρ : Ren} : ∀ {xs : List AV} {vs : List Value} (n : Nat), VRs ρ xs vs → VRs ρ (xs.drop n) (vs.drop n)
  | [], vs, n, h => by simp only [VRs] at h; subst h; simp [VRs]
  | x :: xs, vs, 0, h => by simpa using h
  | x :: xs, vs, n + 1, h => by
    simp only [VRs] at h
    obtain ⟨v, r, rfl, h1, h2⟩ := h
    simpa using VRs.drop n h2

theorem VR.oneCell {ρ : Ren} {x : AV} {v : Value} (hx : x.leaf = true) (h : VR ρ x v) : v.oneCell' = true := by
  cases x <;> simp only [AV.leaf] at hx <;> simp only [VR] at h
  case b => subst h; rfl
  case n => subst h; rfl
  case s => subst h; rfl
  case pn => subst h; rfl
  case p => obtain ⟨l, _, rfl⟩ := h; rfl
  case l id i n =>
    replace h := h.1
    unfold SlR at h
    split at h
    · exact h.elim
    · obtain ⟨_, _, a, rfl⟩ := h; rfl
    · obtain ⟨a, rfl, _⟩ := h; rfl
  case q rows =>
    obtain ⟨vss, _, h⟩ := h
    rcases h with ⟨_, a, c, rfl⟩ | ⟨b, off, k, cap, _, rfl, _⟩ <;> rfl
  case pq => obtain ⟨vs, b, o, _, rfl, _⟩ := h; rfl
  case a => cases hx
  case t => cases hx
  case f => obtain ⟨vs, rfl, _⟩ := h; rfl
  case en => subst h; rfl
  case e => obtain ⟨y, rfl, _⟩ := h; rfl
  case u => cases hx

/-- The cells of a value. -/
theorem VR.cells {ρ : Ren} {x : AV} {v : Value} (hx : (cellsOf x).all AV.leaf = true) (h : VR ρ x v) : VRs ρ (cellsOf x) v.cells.toList := by
  cases x
  case a cs =>
    simp only [VR] at h
    obtain ⟨vs, rfl, h⟩ := h
    simpa [cellsOf, Value.cells] using h
  all_goals
    have hl : v.cells.toList = [v] := by
      have := VR.oneCell (by simpa [cellsOf] using hx) h
      cases v <;> first | rfl | (simp [Value.oneCell'] at this)
    rw [hl]
    simp only [cellsOf, VRs]
    exact ⟨v, [], rfl, h, rfl⟩

structure BlkOk (ρ : Ren) (w : World) (l : Loc) (B : Blk) : Prop where
  k : l.k = B.k
  len : l.len = B.rows.length
  cap : l.len ≤ l.cap
  wid : ∀ r ∈ B.rows, r.length = B.k ∧ r.all AV.leaf = true
  cel : ∀ (i : Nat) r, B.rows[i]? = some r → ∀ (j : Nat) v, r[j]? = some v → ∃ cv, w.cell? ⟨l.b, l.off + i * l.k + j, none⟩ = some cv ∧ VR ρ v cv
  wr : B.own = true → ∀ o, o < l.cap * l.k → (∃ cv, w.cell? ⟨l.b, l.off + o, none⟩ = some cv) ∧ w.frozen? ⟨l.b, l.off + o, none⟩ = false
  fit : l.b < w.heap.size

def nilBlk : Blk := ⟨0, true, []⟩

structure Rel (ρ : Ren) (H : AH) (w : World) : Prop where
  fresh : ∀ id, H.nx ≤ id → ρ id = none ∧ H.m id = none
  nil : H.m 0 = some nilBlk ∧ ρ 0 = some none
  blk : ∀ id B, H.m id = some B → ∃ x, ρ id = some x ∧ match x with
    | some l => BlkOk ρ w l B
    | none => B.rows = []
  sep : ∀ id id' B B' l l', H.m id = some B → H.m id' = some B' → ρ id = some (some l) → ρ id' = some (some l') → B.own = true → id ≠ id' → l.b ≠ l'.b
  fit : ∀ id l, ρ id = some (some l) → l.b < w.heap.size
  con : ∀ b o v, ρ.con b o = some v → w.cell? ⟨b, o, none⟩ = some v ∧ b < w.heap.size
  conOwn : ∀ id B l, H.m id = some B → ρ id = some (some l) → B.own = true → ∀ o, ρ.con l.b o = none

def ownP (H : AH) (id : Nat) : Prop := ∃ B, H.m id = some B ∧ B.own = true

def SameEnv (w w' : World) : Prop := w'.os = w.os ∧ w'.tape = w.tape ∧ w'.output = w.output
/-- What became of a world in which only the blocks W were written. -/
structure Reach (W : Nat → Prop) (ρ : Ren) (H : AH) (w : World) (ρ' : Ren) (H' : AH) (w' : World) : Prop where
  ren : ρ.Le ρ'
  nx : H.nx ≤ H'.nx
  size : w.heap.size ≤ w'.heap.size
  keep : ∀ b, b < w.heap.size → (∀ id l, W id → ρ id = some (some l) → l.b ≠ b) → w'.heap[b]? = w.heap[b]?
  own : ∀ id B l, H'.m id = some B → B.own = true → ρ' id = some (some l) → w.heap.size ≤ l.b ∨ ∃ id0 l0, ownP H id0 ∧ (id0 = id ∨ W id0) ∧ ρ id0 = some (some l0) ∧ l0.b = l.b
  ro : ∀ id B, H'.m id = some B → B.own = false → H.m id = some B
  con : ∀ b o v, ρ'.con b o = some v → ρ.con b o = some v ∨ w.heap.size ≤ b ∨ ∃ id0 l0, ownP H id0 ∧ W id0 ∧ ρ id0 = some (some l0) ∧ l0.b = b
  env : SameEnv w w'

theorem Reach.refl (W : Nat → Prop) (ρ : Ren) (H : AH) (w : World) : Reach W ρ H w ρ H w :=
  ⟨Ren.Le.refl ρ, Nat.le_refl _, Nat.le_refl _, fun _ _ _ => rfl, fun id B l h1 h2 h3 => .inr ⟨id, l, ⟨B, h1, h2⟩, .inl rfl, h3, rfl⟩, fun _ _ h _ => h, fun _ _ _ h => .inl h, ⟨rfl, rfl, rfl⟩⟩

theorem Reach.trans {W : Nat → Prop} {ρ0 ρ1 ρ2 : Ren} {H0 H1 H2 : AH} {w0 w1 w2 : World} (h01 : Reach (ownP H0) ρ0 H0 w0 ρ1 H1 w1)
    (hW : ∀ id, W id → ownP H1 id) (h12 : Reach W ρ1 H1 w1 ρ2 H2 w2) : Reach (ownP H0) ρ0 H0 w0 ρ2 H2 w2 where
  ren := h01.ren.trans h12.ren
  nx := Nat.le_trans h01.nx h12.nx
  size := Nat.le_trans h01.size h12.size
  keep := fun b hb hno => by
    rw [← h01.keep b hb hno]
    refine h12.keep b (Nat.lt_of_lt_of_le hb h01.size) fun id l hid hl e => ?_
    obtain ⟨B, h1, h2⟩ := hW id hid
    rcases h01.own id B l h1 h2 hl with h | ⟨id0, l0, ho, _, hl0, e0⟩
    · omega
    · exact hno id0 l0 ho hl0 (e0.trans e)
  own := fun id B l h1 h2 h3 => by
    rcases h12.own id B l h1 h2 h3 with h | ⟨id1, l1, ⟨B1, hB1, ho1⟩, _, hl1, e1⟩
    · exact .inl (Nat.le_trans h01.size h)
    · rcases h01.own id1 B1 l1 hB1 ho1 hl1 with h | ⟨id0, l0, ho, _, hl0, e0⟩
      · exact .inl (by omega)
      · exact .inr ⟨id0, l0, ho, .inr ho, hl0, e0.trans e1⟩
  ro := fun id B h1 h2 => h01.ro id B (h12.ro id B h1 h2) h2
  con := fun b o v h => by
    rcases h12.con b o v h with h | h | ⟨id1, l1, ⟨B1, hB1, ho1⟩, _, hl1, e1⟩
    · rcases h01.con b o v h with h | h | ⟨id0, l0, h1, h2, h3⟩
      · exact .inl h
      · exact .inr (.inl h)
      · exact .inr (.inr ⟨id0, l0, h1, h2, h3⟩)
    · exact .inr (.inl (Nat.le_trans h01.size h))
    · rcases h01.own id1 B1 l1 hB1 ho1 hl1 with h | ⟨id0, l0, ho, _, hl0, e0⟩
      · exact .inr (.inl (by omega))
      · exact .inr (.inr ⟨id0, l0, ho, ho, hl0, e0.trans e1⟩)
  env := ⟨h12.env.1.trans h01.env.1, h12.env.2.1.trans h01.env.2.1, h12.env.2.2.trans h01.env.2.2⟩

/-- What a call of a function does, whatever the memory. -/
def Ct (P : Program) : CtT := fun f args H R => ∀ ρ w (cargs : List Value), Rel ρ H w → VRs ρ args cargs →
  Calls P f cargs.toArray w fun e w' => ∃ v ρ' r H', e = .returned v ∧ R r H' ∧ VR ρ' r v ∧ Rel ρ' H' w' ∧ Reach (ownP H) ρ H w ρ' H' w'

theorem Ct.mono {P : Program} {f : FuncId} {args : List AV} {H : AH} {R R' : AV → AH → Prop} (h : Ct P f args H R) (hr : ∀ r H', R r H' → R' r H') : Ct P f args H R' :=
  fun ρ w cargs hR ha => (h ρ w cargs hR ha).mono fun _ _ ⟨v, ρ', r, H', e, q, rest⟩ => ⟨v, ρ', r, H', e, hr _ _ q, rest⟩

def FrOk (ρ : Ren) (fr : Fr) (a : Act) : Prop := ∀ t, t < a.tmps.size → VR ρ (fr.get t) (a.tmps.getD t undef)
theorem FrOk.mono {ρ ρ' : Ren} {fr : Fr} {a : Act} (h : FrOk ρ fr a) (hle : ρ.Le ρ') : FrOk ρ' fr a := fun t ht => VR.mono hle _ _ (h t ht)
theorem FrOk.put {ρ : Ren} {fr : Fr} {a : Act} (h : FrOk ρ fr a) (d : Option Nat) {x : AV} {v : Value} (hv : VR ρ x v) : FrOk ρ (fr.setO d x) (a.put d v) := by
  cases d with
  | none => exact h
  | some d =>
    intro t ht
    simp only [Act.put, Array.size_setIfInBounds] at ht
    simp only [Fr.setO, Fr.set, Fr.get, Act.put]
    by_cases e : t = d
    · subst e
      simp [ht, hv]
    · have := h t ht
      simp only [Fr.get] at this
      simp only [e, if_false]
      have e2 : (a.tmps.setIfInBounds d v).getD t undef = a.tmps.getD t undef := by
        simp [Ne.symm e]
      rw [e2]; exact this
end Go.Proofs.Ytamnlngihccgiaa.AM
