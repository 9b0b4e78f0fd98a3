/- The run's values and memories stand for the abstract machine's: the relation, and what holds of it. -/
import Derived.Test.YtamnlngihccgiaaRa
import Derived.KernelRfl
namespace Go.Proofs.Ytamnlngihccgiaa.AM
set_option linter.all false
open Go
set_option linter.constructorNameAsVariable false

def psA : PS → AV
  | .nil => .pn
  | .mk o l r k n s f kd d => .pq [.n .i64 o, psA l, psA r, .n .i64 k, .n .i64 n, .s s, .n .i64 f, .n .i64 kd, .n .i64 d] 0
mutual
def ddA : DD → List AV
  | .mk w n s f g => [.s w, .s n, psA s, .q (ddsA f), .q (ddsA g)]
def ddsA : List DD → List (List AV)
  | [] => []
  | d :: r => ddA d :: ddsA r
end
def mkValA : Bool → List AV → AV
  | true, cs => .a cs
  | false, v :: _ => v
  | false, [] => .u
mutual
/-- The cells of typed data, in the abstract machine. -/
def cellsA : (T : GT) → T.den → List AV
  | .b, x => [.b x]
  | .i k, x => [.n k x]
  | .s, x => [.s x]
  | .st fs, x => cellssA fs x
  | .sl t, x => [.q (List.map (cellsA t) x)]
  | .ps, x => [psA x]
  | .dd, x => ddA x
  | .fn g c, x => [.f g (valsA c x)]
  | .pt t, x => [.pq (cellsA t x) 0]
def cellssA : (fs : List GT) → GT.dens fs → List AV
  | [], _ => []
  | t :: r, x => cellsA t (densHd x) ++ cellssA r (densTl x)
def valsA : (fs : List GT) → GT.dens fs → List AV
  | [], _ => []
  | t :: r, x => mkValA t.isAgg (cellsA t (densHd x)) :: valsA r (densTl x)
end
def valA (T : GT) (x : T.den) : AV := mkValA T.isAgg (cellsA T x)
theorem ddsA_map (l : List DD) : ddsA l = List.map (cellsA .dd) l := by
  induction l with
  | nil => simp only [ddsA]; rfl
  | cons d r ih =>
    simp only [ddsA, ih]
    exact (List.map_cons ..).symm

/-- How the run's blocks are named in the abstract machine, how many rows they have, how many there are. -/
structure Mp where
  φ : Nat → Nat
  ln : Nat → Nat
  nx : Nat

mutual
/-- A value of the run stands for one of the abstract machine's. -/
def EV (m : Mp) : V → AV → Prop
  | .b x, a => a = .b x
  | .n k x, a => a = .n k x
  | .s x, a => a = .s x
  | .pn, a => a = .pn
  | .p id i j, a => (id < m.nx ∧ i < m.ln id) ∧ a = .p (m.φ id) i j
  | .l id lo n, a => (id < m.nx ∧ lo + n ≤ m.ln id) ∧ a = .l (m.φ id) lo n
  | .w id, a => id < m.nx ∧ a = .l (m.φ id) 0 (m.ln id)
  | .q T xs, a => a = .q (xs.map (cellsA T)) ∨ (xs = [] ∧ a = .l 0 0 0)
  | .pq T x j, a => a = .pq (cellsA T x) j
  | .a cs, a => ∃ cs', a = .a cs' ∧ EVs m cs cs'
  | .t cs, a => ∃ cs', a = .t cs' ∧ EVs m cs cs'
  | .f g cap, a => ∃ cap', a = .f g cap' ∧ EVs m cap cap'
  | .en, a => a = .en
  | .e ty v, a => ∃ v', a = .e ty v' ∧ EV m v v'
  | .ps x, a => a = psA x
  | .pps _ _, _ => False
  | .u, _ => True
def EVs (m : Mp) : List V → List AV → Prop
  | [], as => as = []
  | v :: r, as => ∃ a q, as = a :: q ∧ EV m v a ∧ EVs m r q
end
def EVss (m : Mp) : List (List V) → List (List AV) → Prop
  | [], as => as = []
  | v :: r, as => ∃ a q, as = a :: q ∧ EVs m v a ∧ EVss m r q

section
variable {m m' : Mp}
theorem EVs.nil : EVs m [] [] := by simp only [EVs]
theorem EVs.cons {v : V} {a : AV} {r : List V} {q : List AV} (h : EV m v a) (hr : EVs m r q) : EVs m (v :: r) (a :: q) := by
  simp only [EVs]; exact ⟨a, q, rfl, h, hr⟩
theorem EVs.inv {v : V} {r : List V} {as : List AV} (h : EVs m (v :: r) as) : ∃ a q, as = a :: q ∧ EV m v a ∧ EVs m r q := by
  simpa only [EVs] using h
theorem EVs.inv0 {as : List AV} (h : EVs m [] as) : as = [] := by simpa only [EVs] using h
theorem EVs.length : ∀ {vs : List V} {as : List AV}, EVs m vs as → as.length = vs.length
  | [], as, h => by rw [h.inv0]; rfl
  | v :: r, as, h => by
    obtain ⟨a, q, rfl, _, h2⟩ := h.inv
    simp only [List.length_cons, EVs.length h2]
theorem EVs.append : ∀ {vs us : List V} {as bs : List AV}, EVs m vs as → EVs m us bs → EVs m (vs ++ us) (as ++ bs)
  | [], us, as, bs, h, h' => by rw [h.inv0]; exact h'
  | v :: r, us, as, bs, h, h' => by
    obtain ⟨a, q, rfl, h1, h2⟩ := h.inv
    exact EVs.cons h1 (h2.append h')
theorem EVs.take : ∀ {vs : List V} {as : List AV} (n : Nat), EVs m vs as → EVs m (vs.take n) (as.take n)
  | [], as, n, h => by rw [h.inv0]; simp [EVs]
  | v :: r, as, 0, h => by simp [EVs]
  | v :: r, as, n + 1, h => by
    obtain ⟨a, q, rfl, h1, h2⟩ := h.inv
    exact EVs.cons h1 (h2.take n)
theorem EVs.drop : ∀ {vs : List V} {as : List AV} (n : Nat), EVs m vs as → EVs m (vs.drop n) (as.drop n)
  | [], as, n, h => by rw [h.inv0]; simp [EVs]
  | v :: r, as, 0, h => h
  | v :: r, as, n + 1, h => by
    obtain ⟨a, q, rfl, h1, h2⟩ := h.inv
    exact h2.drop n
theorem EVs.nth : ∀ {vs : List V} {as : List AV} {i : Nat}, EVs m vs as → i < vs.length → ∃ a, as[i]? = some a ∧ EV m (nth vs i) a
  | [], as, i, h, hi => by simp at hi
  | v :: r, as, 0, h, hi => by
    obtain ⟨a, q, rfl, h1, h2⟩ := h.inv
    exact ⟨a, rfl, by simpa only [Go.Proofs.Ytamnlngihccgiaa.AM.nth] using h1⟩
  | v :: r, as, i + 1, h, hi => by
    obtain ⟨a, q, rfl, h1, h2⟩ := h.inv
    obtain ⟨b, hb, e⟩ := h2.nth (i := i) (by simpa using hi)
    exact ⟨b, by simpa using hb, by simpa only [Go.Proofs.Ytamnlngihccgiaa.AM.nth] using e⟩
theorem EVss.inv {v : List V} {r : List (List V)} {as : List (List AV)} (h : EVss m (v :: r) as) : ∃ a q, as = a :: q ∧ EVs m v a ∧ EVss m r q := by
  simpa only [EVss] using h
theorem EVss.cons {v : List V} {a : List AV} {r : List (List V)} {q : List (List AV)} (h : EVs m v a) (hr : EVss m r q) : EVss m (v :: r) (a :: q) := by
  simp only [EVss]; exact ⟨a, q, rfl, h, hr⟩
theorem EVss.inv0 {as : List (List AV)} (h : EVss m [] as) : as = [] := by simpa only [EVss] using h
theorem EVss.length : ∀ {vs : List (List V)} {as : List (List AV)}, EVss m vs as → as.length = vs.length
  | [], as, h => by rw [h.inv0]; rfl
  | v :: r, as, h => by
    obtain ⟨a, q, rfl, _, h2⟩ := h.inv
    simp only [List.length_cons, EVss.length h2]
theorem EVss.append : ∀ {vs us : List (List V)} {as bs : List (List AV)}, EVss m vs as → EVss m us bs → EVss m (vs ++ us) (as ++ bs)
  | [], us, as, bs, h, h' => by rw [h.inv0]; exact h'
  | v :: r, us, as, bs, h, h' => by
    obtain ⟨a, q, rfl, h1, h2⟩ := h.inv
    exact EVss.cons h1 (h2.append h')
theorem EVss.take : ∀ {vs : List (List V)} {as : List (List AV)} (n : Nat), EVss m vs as → EVss m (vs.take n) (as.take n)
  | [], as, n, h => by rw [h.inv0]; simp [EVss]
  | v :: r, as, 0, h => by simp [EVss]
  | v :: r, as, n + 1, h => by
    obtain ⟨a, q, rfl, h1, h2⟩ := h.inv
    exact EVss.cons h1 (h2.take n)
theorem EVss.drop : ∀ {vs : List (List V)} {as : List (List AV)} (n : Nat), EVss m vs as → EVss m (vs.drop n) (as.drop n)
  | [], as, n, h => by rw [h.inv0]; simp [EVss]
  | v :: r, as, 0, h => h
  | v :: r, as, n + 1, h => by
    obtain ⟨a, q, rfl, h1, h2⟩ := h.inv
    exact h2.drop n
theorem EVss.get : ∀ {vs : List (List V)} {as : List (List AV)} {i : Nat} {v : List V}, EVss m vs as → vs[i]? = some v → ∃ a, as[i]? = some a ∧ EVs m v a
  | [], as, i, v, h, hi => by simp at hi
  | v :: r, as, 0, u, h, hi => by
    obtain ⟨a, q, rfl, h1, h2⟩ := h.inv
    simp at hi; subst hi
    exact ⟨a, rfl, h1⟩
  | v :: r, as, i + 1, u, h, hi => by
    obtain ⟨a, q, rfl, h1, h2⟩ := h.inv
    obtain ⟨b, hb, e⟩ := h2.get (i := i) (by simpa using hi)
    exact ⟨b, by simpa using hb, e⟩
theorem EVss.set : ∀ {vs : List (List V)} {as : List (List AV)} (i : Nat) {v : List V} {a : List AV}, EVss m vs as → EVs m v a → EVss m (vs.set i v) (as.set i a)
  | [], as, i, v, a, h, _ => by rw [h.inv0]; simp [EVss]
  | v :: r, as, 0, u, b, h, hv => by
    obtain ⟨a, q, rfl, h1, h2⟩ := h.inv
    exact EVss.cons hv h2
  | v :: r, as, i + 1, u, b, h, hv => by
    obtain ⟨a, q, rfl, h1, h2⟩ := h.inv
    exact EVss.cons h1 (h2.set i hv)

/-- More blocks, the old ones as they were. -/
structure Mp.Le (m m' : Mp) : Prop where
  nx : m.nx ≤ m'.nx
  φ : ∀ i, i < m.nx → m'.φ i = m.φ i
  ln : ∀ i, i < m.nx → m'.ln i = m.ln i
theorem Mp.Le.refl (m : Mp) : m.Le m := ⟨Nat.le_refl _, fun _ _ => rfl, fun _ _ => rfl⟩
theorem Mp.Le.trans {m m' m2 : Mp} (h : m.Le m') (h' : m'.Le m2) : m.Le m2 :=
  ⟨Nat.le_trans h.nx h'.nx, fun i hi => (h'.φ i (Nat.lt_of_lt_of_le hi h.nx)).trans (h.φ i hi), fun i hi => (h'.ln i (Nat.lt_of_lt_of_le hi h.nx)).trans (h.ln i hi)⟩

mutual
theorem EV.mono (h : m.Le m') : ∀ (v : V) (a : AV), EV m v a → EV m' v a
  | .b _, _, e => by simpa only [EV] using e
  | .n .., _, e => by simpa only [EV] using e
  | .s _, _, e => by simpa only [EV] using e
  | .pn, _, e => by simpa only [EV] using e
  | .p id i j, a, e => by
    simp only [EV] at e ⊢
    obtain ⟨⟨h1, h2⟩, e⟩ := e
    exact ⟨⟨Nat.lt_of_lt_of_le h1 h.nx, by rw [h.ln id h1]; exact h2⟩, by rw [h.φ id h1]; exact e⟩
  | .l id lo n, a, e => by
    simp only [EV] at e ⊢
    obtain ⟨⟨h1, h2⟩, e⟩ := e
    exact ⟨⟨Nat.lt_of_lt_of_le h1 h.nx, by rw [h.ln id h1]; exact h2⟩, by rw [h.φ id h1]; exact e⟩
  | .w id, a, e => by
    simp only [EV] at e ⊢
    obtain ⟨h1, e⟩ := e
    exact ⟨Nat.lt_of_lt_of_le h1 h.nx, by rw [h.φ id h1, h.ln id h1]; exact e⟩
  | .q .., _, e => by simpa only [EV] using e
  | .pq .., _, e => by simpa only [EV] using e
  | .a cs, a, e => by
    simp only [EV] at e ⊢
    obtain ⟨cs', e1, e2⟩ := e
    exact ⟨cs', e1, EVs.mono h _ _ e2⟩
  | .t cs, a, e => by
    simp only [EV] at e ⊢
    obtain ⟨cs', e1, e2⟩ := e
    exact ⟨cs', e1, EVs.mono h _ _ e2⟩
  | .f g cs, a, e => by
    simp only [EV] at e ⊢
    obtain ⟨cs', e1, e2⟩ := e
    exact ⟨cs', e1, EVs.mono h _ _ e2⟩
  | .en, _, e => by simpa only [EV] using e
  | .e ty v, a, e => by
    simp only [EV] at e ⊢
    obtain ⟨v', e1, e2⟩ := e
    exact ⟨v', e1, EV.mono h _ _ e2⟩
  | .ps _, _, e => by simpa only [EV] using e
  | .pps _ _, _, e => by simp only [EV] at e
  | .u, _, _ => by simp only [EV]
theorem EVs.mono (h : m.Le m') : ∀ (v : List V) (a : List AV), EVs m v a → EVs m' v a
  | [], _, e => by simpa only [EVs] using e
  | v :: r, as, e => by
    obtain ⟨a, q, rfl, h1, h2⟩ := e.inv
    exact EVs.cons (EV.mono h _ _ h1) (EVs.mono h _ _ h2)
end
theorem EVss.mono (h : m.Le m') : ∀ (v : List (List V)) (a : List (List AV)), EVss m v a → EVss m' v a
  | [], _, e => by simpa only [EVss] using e
  | v :: r, as, e => by
    obtain ⟨a, q, rfl, h1, h2⟩ := e.inv
    exact EVss.cons (EVs.mono h _ _ h1) (EVss.mono h _ _ h2)

/-! ### Typed data -/
theorem densHd_mk {t : GT} : ∀ {r : List GT} (x : t.den) (y : GT.dens r), densHd (densMk x y) = x
  | [], _, _ => rfl
  | _ :: _, _, _ => rfl
theorem densTl_mk {t : GT} : ∀ {r : List GT} (x : t.den) (y : GT.dens r), densTl (densMk x y) = y
  | [], _, _ => rfl
  | _ :: _, _, _ => rfl
theorem densMk_eta {t : GT} : ∀ {r : List GT} (x : GT.dens (t :: r)), densMk (densHd x) (densTl x) = x
  | [], _ => rfl
  | _ :: _, _ => rfl

theorem castL_eq {T : GT} {xs : List T.den} {t : GT} (h : GT.beq T t = true) : ∀ (e : T = t), castL T t xs = e ▸ xs := by
  intro e
  subst e
  simp only [castL, h, dif_pos]
theorem castD_eq {T : GT} {x : T.den} {t : GT} (h : GT.beq T t = true) : ∀ (e : T = t), castD T t x = e ▸ x := by
  intro e
  subst e
  simp only [castD, h, dif_pos]

theorem mkVal_cells : ∀ (T : GT) (x : T.den), (mkVal T.isAgg (cells T x)).cellsOf = cells T x
  | .b, x => by simp only [GT.isAgg, cells, mkVal, V.cellsOf]
  | .i _, x => by simp only [GT.isAgg, cells, mkVal, V.cellsOf]
  | .s, x => by simp only [GT.isAgg, cells, mkVal, V.cellsOf]
  | .st fs, x => by simp only [GT.isAgg, cells, mkVal, V.cellsOf]
  | .sl t, x => by simp only [GT.isAgg, cells, mkVal, V.cellsOf]
  | .ps, x => by simp only [GT.isAgg, cells, mkVal, V.cellsOf]
  | .dd, x => by simp only [GT.isAgg, cells, mkVal, V.cellsOf]
  | .fn _ _, x => by simp only [GT.isAgg, cells, mkVal, V.cellsOf]
  | .pt t, x => by simp only [GT.isAgg, cells, mkVal, V.cellsOf]

mutual
theorem ev_cells (m : Mp) : ∀ (T : GT) (x : T.den), EVs m (cells T x) (cellsA T x)
  | .b, x => by simp [cells, cellsA, EVs, EV]
  | .i k, x => by simp [cells, cellsA, EVs, EV]
  | .s, x => by simp [cells, cellsA, EVs, EV]
  | .st fs, x => by simp only [cells, cellsA]; exact ev_cellss m fs x
  | .sl t, x => by simp [cells, cellsA, EVs, EV]
  | .ps, x => by simp [cells, cellsA, EVs, EV]
  | .dd, x => by
    simp only [cells, cellsA]
    cases x with
    | mk w n s f g =>
      simp only [ddA, DD.word, DD.name, DD.sum, DD.first, DD.second, ddsA_map]
      refine EVs.cons ?_ (EVs.cons ?_ (EVs.cons ?_ (EVs.cons ?_ (EVs.cons ?_ EVs.nil)))) <;> simp only [EV]
      · simp
      · simp
  | .fn g c, x => by
    simp only [cells, cellsA]
    refine EVs.cons ?_ EVs.nil
    simp only [EV]
    exact ⟨_, rfl, ev_vals m c x⟩
  | .pt t, x => by simp [cells, cellsA, EVs, EV]
theorem ev_cellss (m : Mp) : ∀ (fs : List GT) (x : GT.dens fs), EVs m (cellss fs x) (cellssA fs x)
  | [], x => by simp [cellss, cellssA, EVs]
  | t :: r, x => by
    simp only [cellss, cellssA]
    exact (ev_cells m t _).append (ev_cellss m r _)
theorem ev_vals (m : Mp) : ∀ (fs : List GT) (x : GT.dens fs), EVs m (vals fs x) (valsA fs x)
  | [], x => by simp [vals, valsA, EVs]
  | t :: r, x => by
    simp only [vals, valsA]
    refine EVs.cons ?_ (ev_vals m r _)
    have h := ev_cells m t (densHd x)
    have hl : t.isAgg = false → ∃ v a, cells t (densHd x) = [v] ∧ cellsA t (densHd x) = [a] := by
      intro ha
      cases t <;> simp only [GT.isAgg, Bool.true_eq_false] at ha <;> simp only [cells, cellsA] <;> exact ⟨_, _, rfl, rfl⟩
    cases ha : t.isAgg with
    | true => simp only [mkVal, mkValA, EV]; exact ⟨_, rfl, h⟩
    | false =>
      obtain ⟨v, a, e1, e2⟩ := hl ha
      rw [e1, e2] at h ⊢
      obtain ⟨_, _, e, h1, _⟩ := h.inv
      simp only [List.cons.injEq] at e
      simp only [mkVal, mkValA]
      rw [e.1]; exact h1
end
theorem ev_val (m : Mp) (T : GT) (x : T.den) : EV m (val T x) (valA T x) := by
  have h := ev_vals m [T] x
  simp only [vals, valsA] at h
  obtain ⟨_, _, e, h1, _⟩ := h.inv
  simp only [List.cons.injEq] at e
  rw [← e.1] at h1
  exact h1

mutual
theorem cells_size : ∀ (T : GT) (x : T.den), (cells T x).length = T.size
  | .b, x => by simp [cells, GT.size]
  | .i k, x => by simp [cells, GT.size]
  | .s, x => by simp [cells, GT.size]
  | .st fs, x => by simp only [cells, GT.size]; exact cellss_size fs x
  | .sl t, x => by simp [cells, GT.size]
  | .ps, x => by simp [cells, GT.size]
  | .dd, x => by simp [cells, GT.size]
  | .fn g c, x => by simp [cells, GT.size]
  | .pt t, x => by simp [cells, GT.size]
theorem cellss_size : ∀ (fs : List GT) (x : GT.dens fs), (cellss fs x).length = GT.sizes fs
  | [], x => by simp [cellss, GT.sizes]
  | t :: r, x => by simp only [cellss, GT.sizes, List.length_append, cells_size t, cellss_size r]
end
theorem cellsA_size (T : GT) (x : T.den) : (cellsA T x).length = T.size := by
  rw [(ev_cells ⟨id, id, 0⟩ T x).length, cells_size]

mutual
theorem cells_leaf : ∀ (T : GT) (x : T.den), leafs (cells T x) = true
  | .b, x => by simp [cells, leafs, V.leaf]
  | .i k, x => by simp [cells, leafs, V.leaf]
  | .s, x => by simp [cells, leafs, V.leaf]
  | .st fs, x => by simp only [cells]; exact cellss_leaf fs x
  | .sl t, x => by simp [cells, leafs, V.leaf]
  | .ps, x => by simp [cells, leafs, V.leaf]
  | .dd, x => by simp [cells, leafs, V.leaf]
  | .fn g c, x => by simp [cells, leafs, V.leaf]
  | .pt t, x => by simp [cells, leafs, V.leaf]
theorem cellss_leaf : ∀ (fs : List GT) (x : GT.dens fs), leafs (cellss fs x) = true
  | [], x => by simp [cellss, leafs]
  | t :: r, x => by
    have happ : ∀ (a b : List V), leafs a = true → leafs b = true → leafs (a ++ b) = true := by
      intro a
      induction a with
      | nil => intro b _ h; exact h
      | cons v r ih =>
        intro b h1 h2
        simp only [leafs, Bool.and_eq_true, List.cons_append] at h1 ⊢
        exact ⟨h1.1, ih b h1.2 h2⟩
    simp only [cellss]
    exact happ _ _ (cells_leaf t _) (cellss_leaf r _)
end
theorem leafs_all : ∀ {vs : List V} {as : List AV}, EVs m vs as → leafs vs = true → as.all AV.leaf = true
  | [], as, h, _ => by rw [h.inv0]; rfl
  | v :: r, as, h, hl => by
    obtain ⟨a, q, rfl, h1, h2⟩ := h.inv
    simp only [leafs, Bool.and_eq_true] at hl
    simp only [List.all_cons, Bool.and_eq_true]
    refine ⟨?_, leafs_all h2 hl.2⟩
    have hv := hl.1
    cases v <;> simp only [V.leaf, Bool.false_eq_true] at hv <;> simp only [EV] at h1
    case b => subst h1; rfl
    case n => subst h1; rfl
    case s => subst h1; rfl
    case pn => subst h1; rfl
    case p => obtain ⟨_, rfl⟩ := h1; rfl
    case l => obtain ⟨_, rfl⟩ := h1; rfl
    case w => obtain ⟨_, rfl⟩ := h1; rfl
    case q => rcases h1 with rfl | ⟨_, rfl⟩ <;> rfl
    case pq => subst h1; rfl
    case f => obtain ⟨_, rfl, _⟩ := h1; rfl
    case en => subst h1; rfl
    case e => obtain ⟨_, rfl, _⟩ := h1; rfl
    case ps x => subst h1; cases x <;> rfl

theorem cellsOf_leaf {a : AV} (h : a.leaf = true) : cellsOf a = [a] := by
  cases a <;> first | rfl | (simp [AV.leaf] at h)
theorem cellsOfV {v : V} (h : v.isAgg = false) : v.cellsOf = [v] := by
  cases v <;> first | rfl | (simp [V.isAgg] at h)
theorem ev_cellsOf {v : V} {a : AV} (h : EV m v a) (hv : leafs v.cellsOf = true) : EVs m v.cellsOf (cellsOf a) := by
  cases hg : v.isAgg with
  | true =>
    cases v <;> simp only [V.isAgg, Bool.false_eq_true] at hg
    simp only [EV] at h
    obtain ⟨cs', rfl, h⟩ := h
    exact h
  | false =>
    rw [cellsOfV hg] at hv ⊢
    have := leafs_all (EVs.cons h EVs.nil) hv
    simp only [List.all_cons, List.all_nil, Bool.and_true] at this
    rw [cellsOf_leaf this]
    exact EVs.cons h EVs.nil

/-- Cells that are of a type are its data's. -/
theorem unSl_ev {t : GT} {v : V} {a : AV} (hz : m.φ 0 = 0) (h : EV m v a) (ho : okSl t v = true) : EV m (.q t (unSl t v)) a := by
  cases v <;> simp only [okSl, Bool.false_eq_true, Bool.and_eq_true] at ho
  case l id lo n =>
    obtain ⟨h1, h2, h3⟩ := ho
    have h1 := Nat.eq_of_beq_eq_true h1
    have h2 := Nat.eq_of_beq_eq_true h2
    have h3 := Nat.eq_of_beq_eq_true h3
    subst h1; subst h2; subst h3
    show EV m (.q t []) a
    simp only [EV] at h ⊢
    obtain ⟨_, rfl⟩ := h
    right
    rw [hz]; exact ⟨True.intro, rfl⟩
  case q T xs =>
    have e := GT.eq_of_beq _ _ ho
    subst e
    simp only [unSl, castL_eq ho rfl]
    exact h
theorem okc_b {cs : List V} (h : okc .b cs = true) : ∃ x, cs = [.b x] := by
  simp only [okc] at h
  split at h
  · exact ⟨_, rfl⟩
  · cases h
theorem okc_i {k : IntKind} {cs : List V} (h : okc (.i k) cs = true) : ∃ x, cs = [.n k x] := by
  simp only [okc] at h
  split at h
  · simp only [decide_eq_true_eq] at h
    subst h
    exact ⟨_, rfl⟩
  · cases h
theorem okc_s {cs : List V} (h : okc .s cs = true) : ∃ x, cs = [.s x] := by
  simp only [okc] at h
  split at h
  · exact ⟨_, rfl⟩
  · cases h
theorem okc_ps {cs : List V} (h : okc .ps cs = true) : ∃ x, cs = [.ps x] := by
  simp only [okc] at h
  split at h
  · exact ⟨_, rfl⟩
  · cases h
theorem okc_sl {t : GT} {cs : List V} (h : okc (.sl t) cs = true) : ∃ v, cs = [v] ∧ okSl t v = true := by
  simp only [okc] at h
  split at h
  · exact ⟨_, rfl, h⟩
  · cases h
theorem okc_dd {cs : List V} (h : okc .dd cs = true) : ∃ w n s v v', cs = [.s w, .s n, .ps s, v, v'] ∧ okSl .dd v = true ∧ okSl .dd v' = true := by
  simp only [okc] at h
  split at h
  · simp only [Bool.and_eq_true] at h
    exact ⟨_, _, _, _, _, rfl, h.1, h.2⟩
  · cases h
theorem okc_fn {g : FuncId} {c : List GT} {cs : List V} (h : okc (.fn g c) cs = true) : ∃ vs, cs = [.f g vs] ∧ okvs c vs = true := by
  simp only [okc] at h
  split at h
  · simp only [Bool.and_eq_true] at h
    have hg := Nat.eq_of_beq_eq_true h.1
    subst hg
    exact ⟨_, rfl, h.2⟩
  · cases h
theorem okc_pt {t : GT} {cs : List V} (h : okc (.pt t) cs = true) : ∃ x, cs = [.pq t x 0] := by
  simp only [okc] at h
  split at h
  · simp only [Bool.and_eq_true] at h
    have hg := GT.eq_of_beq _ _ h.1
    have hj := Nat.eq_of_beq_eq_true h.2
    subst hg; subst hj
    exact ⟨_, rfl⟩
  · cases h
theorem un_b (x : Bool) : un .b [.b x] = x := by kernel_rfl
theorem un_i (k k' : IntKind) (x : Int) : un (.i k) [.n k' x] = x := by kernel_rfl
theorem un_s (x : ByteArray) : un .s [.s x] = x := by kernel_rfl
theorem un_ps (x : PS) : un .ps [.ps x] = x := by kernel_rfl
theorem un_sl (t : GT) (v : V) : un (.sl t) [v] = unSl t v := by kernel_rfl
theorem un_dd (w n : ByteArray) (s : PS) (v v' : V) : un .dd [.s w, .s n, .ps s, v, v'] = DD.mk w n s (unSl .dd v) (unSl .dd v') := by kernel_rfl
theorem un_fn (g : FuncId) (c : List GT) (vs : List V) : un (.fn g c) [.f g vs] = unvs c vs := by kernel_rfl
theorem un_st (fs : List GT) (cs : List V) : un (.st fs) cs = uns fs cs := by kernel_rfl
theorem uns_cons (t : GT) (r : List GT) (cs : List V) : uns (t :: r) cs = densMk (un t (cs.take t.size)) (uns r (cs.drop t.size)) := by kernel_rfl
theorem unvs_cons (t : GT) (r : List GT) (v : V) (q : List V) : unvs (t :: r) (v :: q) = densMk (un t v.cellsOf) (unvs r q) := by kernel_rfl
theorem unvs_nil : unvs [] [] = () := by kernel_rfl
theorem uns_nil : uns [] [] = () := by kernel_rfl
theorem un_pt (t : GT) (x : t.den) : un (.pt t) [.pq t x 0] = castD t t x := by kernel_rfl
theorem GT.beq_refl (t : GT) : GT.beq t t = true := by
  have h : ∀ t, GT.beq t t = true := by
    intro t
    refine GT.rec (motive_1 := fun t => GT.beq t t = true) (motive_2 := fun l => GT.beqs l l = true) ?_ ?_ ?_ ?_ ?_ ?_ ?_ ?_ ?_ ?_ ?_ t <;> intros <;> simp_all [GT.beq, GT.beqs]
  exact h t
theorem castD_self (t : GT) (x : t.den) : castD t t x = x := castD_eq (GT.beq_refl t) rfl
theorem castL_self (t : GT) (x : List t.den) : castL t t x = x := castL_eq (GT.beq_refl t) rfl
mutual
theorem un_ev (hz : m.φ 0 = 0) : ∀ (T : GT) (cs : List V) (as : List AV), EVs m cs as → okc T cs = true → EVs m (cells T (un T cs)) as
  | .b, cs, as, h, ho => by
    obtain ⟨x, rfl⟩ := okc_b ho
    simp only [un_b, cells]; exact h
  | .i k, cs, as, h, ho => by
    obtain ⟨x, rfl⟩ := okc_i ho
    simp only [un_i, cells]; exact h
  | .s, cs, as, h, ho => by
    obtain ⟨x, rfl⟩ := okc_s ho
    simp only [un_s, cells]; exact h
  | .st fs, cs, as, h, ho => by
    simp only [okc] at ho
    simp only [un_st, cells]
    exact uns_ev hz fs cs as h ho
  | .sl t, cs, as, h, ho => by
    obtain ⟨v, rfl, ho⟩ := okc_sl ho
    obtain ⟨a, q, rfl, h1, h2⟩ := h.inv
    simp only [un_sl, cells]
    exact EVs.cons (unSl_ev hz h1 ho) h2
  | .ps, cs, as, h, ho => by
    obtain ⟨x, rfl⟩ := okc_ps ho
    simp only [un_ps, cells]; exact h
  | .dd, cs, as, h, ho => by
    obtain ⟨w, n, s, v, v', rfl, ho1, ho2⟩ := okc_dd ho
    obtain ⟨a1, q1, rfl, e1, h⟩ := h.inv
    obtain ⟨a2, q2, rfl, e2, h⟩ := h.inv
    obtain ⟨a3, q3, rfl, e3, h⟩ := h.inv
    obtain ⟨a4, q4, rfl, e4, h⟩ := h.inv
    obtain ⟨a5, q5, rfl, e5, h⟩ := h.inv
    simp only [un_dd, cells, DD.word, DD.name, DD.sum, DD.first, DD.second]
    exact EVs.cons e1 (EVs.cons e2 (EVs.cons e3 (EVs.cons (unSl_ev hz e4 ho1) (EVs.cons (unSl_ev hz e5 ho2) h))))
  | .fn g c, cs, as, h, ho => by
    obtain ⟨vs, rfl, ho'⟩ := okc_fn ho
    obtain ⟨a1, q1, rfl, e1, h⟩ := h.inv
    simp only [un_fn, cells]
    refine EVs.cons ?_ h
    simp only [EV] at e1 ⊢
    obtain ⟨cap', rfl, e2⟩ := e1
    exact ⟨cap', rfl, unvs_ev hz c _ _ e2 ho'⟩
  | .pt t, cs, as, h, ho => by
    obtain ⟨x, rfl⟩ := okc_pt ho
    simp only [un_pt, cells, castD_self]; exact h
theorem uns_ev (hz : m.φ 0 = 0) : ∀ (fs : List GT) (cs : List V) (as : List AV), EVs m cs as → okcs fs cs = true → EVs m (cellss fs (uns fs cs)) as
  | [], cs, as, h, ho => by
    cases cs with
    | nil => simpa only [cellss] using h
    | cons c r => simp only [okcs, Bool.false_eq_true] at ho
  | t :: r, cs, as, h, ho => by
    simp only [okcs, Bool.and_eq_true] at ho
    simp only [uns_cons, cellss, densHd_mk, densTl_mk]
    have h1 := un_ev hz t _ _ (h.take t.size) ho.1
    have h2 := uns_ev hz r _ _ (h.drop t.size) ho.2
    have := h1.append h2
    rwa [List.take_append_drop] at this
theorem unvs_ev (hz : m.φ 0 = 0) : ∀ (fs : List GT) (vs : List V) (as : List AV), EVs m vs as → okvs fs vs = true → EVs m (vals fs (unvs fs vs)) as
  | [], vs, as, h, ho => by
    cases vs with
    | nil => simpa only [vals] using h
    | cons c r => simp only [okvs, Bool.false_eq_true] at ho
  | t :: r, [], as, h, ho => by simp only [okvs, Bool.false_eq_true] at ho
  | t :: r, v :: q, as, h, ho => by
    simp only [okvs, Bool.and_eq_true, beq_iff_eq] at ho
    obtain ⟨⟨ha, hc⟩, ho⟩ := ho
    obtain ⟨a, as', rfl, e, h⟩ := h.inv
    simp only [unvs_cons, vals, densHd_mk, densTl_mk]
    refine EVs.cons ?_ (unvs_ev hz r _ _ h ho)
    cases hv : v.isAgg with
    | true =>
      cases v <;> simp only [V.isAgg, Bool.false_eq_true] at hv
      rename_i cs
      rw [ha]
      simp only [V.isAgg, mkVal, EV, V.cellsOf] at e hc ⊢
      obtain ⟨cs', rfl, e⟩ := e
      exact ⟨cs', rfl, un_ev hz t _ _ e hc⟩
    | false =>
      have h1 := un_ev hz t v.cellsOf [a] (by rw [cellsOfV hv]; exact EVs.cons e EVs.nil) hc
      have hl : ∃ u, cells t (un t v.cellsOf) = [u] := by
        rw [hv] at ha
        cases t <;> simp only [GT.isAgg, Bool.true_eq_false] at ha <;> simp only [cells] <;> exact ⟨_, rfl⟩
      obtain ⟨u, hu⟩ := hl
      rw [ha, hv]
      rw [hu] at h1 ⊢
      obtain ⟨_, _, e', h1, _⟩ := h1.inv
      simp only [List.cons.injEq] at e'
      simp only [mkVal]
      rw [e'.1]; exact h1
end

/-- A nil slice may be told as content. -/
theorem pv_nil {H : AH} {S : Nat → Prop} (hn : H.m 0 = some nilBlk) : PV H S (.q []) (.l 0 0 0) := by
  simp only [PV]
  exact .inr ⟨0, 0, 0, nilBlk, rfl, .inl rfl, hn, by simp [nilBlk], by simp [PVss]⟩
mutual
theorem cells_pv {H : AH} {S : Nat → Prop} (hn : H.m 0 = some nilBlk) : ∀ (T : GT) (x : T.den) (as : List AV), EVs m (cells T x) as → PVs H S (cellsA T x) as
  | .b, x, as, h => by
    simp only [cells, EVs, EV] at h
    obtain ⟨a, q, rfl, rfl, rfl⟩ := h
    simp only [cellsA]; exact PVs.refl _
  | .i k, x, as, h => by
    simp only [cells, EVs, EV] at h
    obtain ⟨a, q, rfl, rfl, rfl⟩ := h
    simp only [cellsA]; exact PVs.refl _
  | .s, x, as, h => by
    simp only [cells, EVs, EV] at h
    obtain ⟨a, q, rfl, rfl, rfl⟩ := h
    simp only [cellsA]; exact PVs.refl _
  | .st fs, x, as, h => by
    simp only [cells, cellsA] at h ⊢
    exact cellss_pv hn fs x as h
  | .sl t, x, as, h => by
    simp only [cells, EVs, EV] at h
    obtain ⟨a, q, rfl, h, rfl⟩ := h
    simp only [cellsA]
    rcases h with rfl | ⟨rfl, rfl⟩
    · exact PVs.refl _
    · simp only [PVs, List.map_nil]
      exact ⟨_, _, rfl, pv_nil hn, rfl⟩
  | .ps, x, as, h => by
    simp only [cells, EVs, EV] at h
    obtain ⟨a, q, rfl, rfl, rfl⟩ := h
    simp only [cellsA]; exact PVs.refl _
  | .dd, x, as, h => by
    simp only [cells, EVs, EV] at h
    obtain ⟨_, _, rfl, rfl, _, _, rfl, rfl, _, _, rfl, rfl, _, _, rfl, h1, _, _, rfl, h2, rfl⟩ := h
    cases x with
    | mk w n s f g =>
      simp only [DD.first, DD.second] at h1 h2
      rw [← ddsA_map] at h1 h2
      simp only [cellsA, ddA, PVs, DD.word, DD.name, DD.sum]
      refine ⟨_, _, rfl, PV.refl _, _, _, rfl, PV.refl _, _, _, rfl, PV.refl _, _, _, rfl, ?_, _, _, rfl, ?_, rfl⟩
      · rcases h1 with rfl | ⟨rfl, rfl⟩
        · exact PV.refl _
        · simp only [ddsA]; exact pv_nil hn
      · rcases h2 with rfl | ⟨rfl, rfl⟩
        · exact PV.refl _
        · simp only [ddsA]; exact pv_nil hn
  | .fn g c, x, as, h => by
    simp only [cells, EVs, EV] at h
    obtain ⟨a, q, rfl, ⟨cap', rfl, h⟩, rfl⟩ := h
    simp only [cellsA, PVs, PV]
    exact ⟨_, _, rfl, ⟨cap', rfl, vals_pv hn c x _ h⟩, rfl⟩
  | .pt t, x, as, h => by
    simp only [cells, EVs, EV] at h
    obtain ⟨a, q, rfl, rfl, rfl⟩ := h
    simp only [cellsA]; exact PVs.refl _
theorem cellss_pv {H : AH} {S : Nat → Prop} (hn : H.m 0 = some nilBlk) : ∀ (fs : List GT) (x : GT.dens fs) (as : List AV), EVs m (cellss fs x) as → PVs H S (cellssA fs x) as
  | [], x, as, h => by
    simp only [cellss] at h
    rw [h.inv0]
    simp only [cellssA, PVs]
  | t :: r, x, as, h => by
    simp only [cellss] at h
    have h1 := h.take (cells t (densHd x)).length
    have h2 := h.drop (cells t (densHd x)).length
    simp only [List.take_left, List.drop_left] at h1 h2
    have p1 := cells_pv (S := S) hn t _ _ h1
    have p2 := cellss_pv (S := S) hn r _ _ h2
    have happ : ∀ {a b : List AV} {c d : List AV}, PVs H S a c → PVs H S b d → PVs H S (a ++ b) (c ++ d) := by
      intro a
      induction a with
      | nil => intro b c d h h'; simp only [PVs] at h; subst h; exact h'
      | cons v r ih =>
        intro b c d h h'
        simp only [PVs, List.cons_append] at h ⊢
        obtain ⟨u, q, rfl, e1, e2⟩ := h
        exact ⟨u, q ++ d, rfl, e1, ih e2 h'⟩
    have := happ p1 p2
    rw [List.take_append_drop] at this
    rw [cellssA]; exact this
theorem vals_pv {H : AH} {S : Nat → Prop} (hn : H.m 0 = some nilBlk) : ∀ (fs : List GT) (x : GT.dens fs) (as : List AV), EVs m (vals fs x) as → PVs H S (valsA fs x) as
  | [], x, as, h => by
    simp only [vals] at h
    rw [h.inv0]
    simp only [valsA, PVs]
  | t :: r, x, as, h => by
    simp only [vals] at h
    obtain ⟨a, q, rfl, e, h⟩ := h.inv
    simp only [valsA, PVs]
    refine ⟨_, _, rfl, ?_, vals_pv hn r _ _ h⟩
    cases ha : t.isAgg with
    | true =>
      rw [ha] at e
      simp only [mkVal, EV, mkValA, PV] at e ⊢
      obtain ⟨cs', rfl, e⟩ := e
      exact ⟨cs', rfl, cells_pv hn t _ _ e⟩
    | false =>
      have hl : ∃ v b, cells t (densHd x) = [v] ∧ cellsA t (densHd x) = [b] := by
        cases t <;> simp only [GT.isAgg, Bool.true_eq_false] at ha <;> simp only [cells, cellsA] <;> exact ⟨_, _, rfl, rfl⟩
      obtain ⟨v, b, e1, e2⟩ := hl
      rw [ha, e1] at e
      simp only [mkVal] at e
      have := cells_pv (S := S) hn t (densHd x) [a] (by rw [e1]; exact EVs.cons e EVs.nil)
      rw [e2] at this ⊢
      simp only [PVs] at this
      obtain ⟨_, _, e', p, _⟩ := this
      simp only [List.cons.injEq] at e'
      simp only [mkValA]
      rw [e'.1]; exact p
end
/-- Typed data name no blocks. -/
theorem cells_any (m' : Mp) (T : GT) (x : T.den) (as : List AV) (h : EVs m (cells T x) as) : EVs m' (cells T x) as := by
  have hmut : (∀ (T : GT) (x : T.den) (as : List AV), EVs m (cells T x) as → EVs m' (cells T x) as) := by
    intro T
    refine GT.rec (motive_1 := fun T => ∀ (x : T.den) (as : List AV), EVs m (cells T x) as → EVs m' (cells T x) as)
      (motive_2 := fun fs => (∀ (x : GT.dens fs) (as : List AV), EVs m (cellss fs x) as → EVs m' (cellss fs x) as) ∧ (∀ (x : GT.dens fs) (as : List AV), EVs m (vals fs x) as → EVs m' (vals fs x) as)) ?_ ?_ ?_ ?_ ?_ ?_ ?_ ?_ ?_ ?_ ?_ T
    · intro x as h; simpa only [cells, EVs, EV] using h
    · intro k x as h; simpa only [cells, EVs, EV] using h
    · intro x as h; simpa only [cells, EVs, EV] using h
    · intro fs ih x as h
      simp only [cells] at h ⊢
      exact ih.1 x as h
    · intro t _ x as h; simpa only [cells, EVs, EV] using h
    · intro x as h; simpa only [cells, EVs, EV] using h
    · intro x as h; simpa only [cells, EVs, EV] using h
    · intro g c ih x as h
      simp only [cells, EVs, EV] at h ⊢
      obtain ⟨a, q, rfl, ⟨cap', rfl, h⟩, rfl⟩ := h
      exact ⟨_, _, rfl, ⟨cap', rfl, ih.2 x cap' h⟩, rfl⟩
    · intro t _ x as h; simpa only [cells, EVs, EV] using h
    · exact ⟨fun x as h => by simpa only [cellss, EVs] using h, fun x as h => by simpa only [vals, EVs] using h⟩
    · intro t r iht ihr
      refine ⟨fun x as h => ?_, fun x as h => ?_⟩
      · simp only [cellss] at h ⊢
        have h1 := h.take (cells t (densHd x)).length
        have h2 := h.drop (cells t (densHd x)).length
        simp only [List.take_left, List.drop_left] at h1 h2
        have := (iht _ _ h1).append (ihr.1 _ _ h2)
        rwa [List.take_append_drop] at this
      · simp only [vals] at h ⊢
        obtain ⟨a, q, rfl, e, h⟩ := h.inv
        refine EVs.cons ?_ (ihr.2 _ _ h)
        cases ha : t.isAgg with
        | true =>
          rw [ha] at e
          simp only [mkVal, EV] at e ⊢
          obtain ⟨cs', rfl, e⟩ := e
          exact ⟨cs', rfl, iht _ _ e⟩
        | false =>
          have hl : ∃ v, cells t (densHd x) = [v] := by
            cases t <;> simp only [GT.isAgg, Bool.true_eq_false] at ha <;> simp only [cells] <;> exact ⟨_, rfl⟩
          obtain ⟨v, e1⟩ := hl
          rw [ha, e1] at e
          rw [e1]
          simp only [mkVal] at e ⊢
          have := iht (densHd x) [a] (by rw [e1]; exact EVs.cons e EVs.nil)
          rw [e1] at this
          obtain ⟨_, _, e', p, _⟩ := this.inv
          simp only [List.cons.injEq] at e'
          rw [e'.1]; exact p
  exact hmut T x as h
end
end Go.Proofs.Ytamnlngihccgiaa.AM
