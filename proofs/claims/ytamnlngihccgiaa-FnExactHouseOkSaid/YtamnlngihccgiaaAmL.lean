/- Slices: made, written out, copied, appended to. -/
import Derived.Test.YtamnlngihccgiaaAmK
namespace Go.Proofs.Ytamnlngihccgiaa.AM
set_option linter.all false
open Go
section
variable {P : Program} {nt : Nat} {ρ : Ren} {fr : Fr} {a : Act} {H : AH} {w : World} {o : Oper} {K : AV → AH → Prop} {pw rd : Nat → Prop}

theorem divmod_lt {q n k : Nat} (h : q < n * k) : q / k < n ∧ q % k < k ∧ q = (q / k) * k + q % k := by
  have hk : 0 < k := by
    rcases Nat.eq_zero_or_pos k with h0 | h0
    · subst h0; simp at h
    · exact h0
  refine ⟨(Nat.div_lt_iff_lt_mul hk).2 h, Nat.mod_lt _ hk, ?_⟩
  have := Nat.div_add_mod q k
  rw [Nat.mul_comm] at this; exact this.symm

/-! ### make -/
theorem e_mks (hf : FrOk ρ fr a) (hs : a.tmps.size = nt) (hR : Rel ρ H w) {by_ : Nat} {zero : List AV} {len : Od} (hc : checkOp P nt o.op (.mks by_ zero len) = true)
    (h : aop (env P) pw rd (.mks by_ zero len) fr H K) : Eff P (WP H pw) ρ H w a o K := by
  have h0 := hR.nil.2
  simp only [checkOp] at hc
  split at hc
  case h_2 => cases hc
  rename_i t l c e
  simp only [Bool.and_eq_true] at hc
  obtain ⟨⟨h1, h2⟩, h3⟩ := hc
  split at h3
  case h_2 => cases h3
  rename_i el hel
  simp only [Bool.and_eq_true, beq_iff_eq, bne_iff_ne] at h3
  obtain ⟨⟨⟨hby, hsz⟩, hz0⟩, hz⟩ := h3
  split at hz
  case h_2 => cases hz
  rename_i z hzz
  have hcs := VRs.of_valsOk h0 _ _ hz
  have hlen := hcs.length
  have hu := tyElem_spec hel
  have r1 := odOk.VR hf hs h0 h1
  have r2 := odOk.VR hf hs h0 h2
  simp only [aop] at h
  split at h
  case h_2 => exact h.elim
  rename_i k v ev
  obtain ⟨hv0, hv1, hv2, hleaf, h⟩ := h
  rw [ev] at r1 r2
  simp only [VR] at r1 r2
  have hwr : IntKind.i64.wrap v = v := by simp [IntKind.wrap, IntKind.bits, IntKind.signed, IntKind.max]; omega
  have hbytes : (typeInfo el).run P w = .ok ((P.info? el).getD default) w ∧ ((P.info? el).getD default).bytes = by_ := by
    unfold tyBytes at hby
    cases hi : P.info? el with
    | none => simp [hi] at hby
    | some i => simp [hi] at hby; simp [typeInfo, hi, hby]
  have hcz : z.cells.size = zero.length := by simpa using hlen
  -- the cells
  obtain ⟨cells, hcells⟩ : ∃ cells : Array Value, cells = (Array.range (v.toNat * zero.length)).map (z.cells[· % z.cells.size]!) := ⟨_, rfl⟩
  have hcell : ∀ q, q < v.toNat * zero.length → cells[q]? = some (z.cells[q % zero.length]!) := fun q hq => by
    rw [hcells]; simp [hq, hcz]
  have hrun : (execOp a.eval o).run P w = .ok (.value (.slice (some ⟨w.heap.size, 0, none⟩) v.toNat v.toNat)) (w.alloc (.cells cells el)) := by
    have hb1 : ¬ (v < 0) := by omega
    have hb2 : ¬ ((by_ : Int) * v > 2 ^ 48) := by omega
    simp only [execOp, e, r1, r2, Instr.makeSlice, Sem.run_bind, run_underlying hu, Result.andThen_ok, asInt, asIntOf, Sem.run_pure, hbytes.1, hwr, hbytes.2]
    have hcond : ((decide (v < 0) || decide ((by_ : Int) * v > 2 ^ 48)) = true ∨ v < 0 ∨ v > v) ↔ False := by
      simp [hb1, hb2]; omega
    simp only [decide_eq_true_eq, Bool.or_eq_true, hb1, hb2, or_self, decide_false, Bool.false_or, Bool.or_self, Int.lt_irrefl, gt_iff_lt, Bool.false_eq_true, if_false, run_askRoom, Result.andThen_ok, run_sizeOf' hsz, Sem.run_bind, Sem.run_pure]
    by_cases hn : v.toNat * zero.length = 0
    · have hm0 : ∀ f : Nat → Value, (Array.range 0).map f = #[] := fun f => by simp
      have hce : cells = #[] := by rw [hcells, hn]; exact hm0 _
      simp only [hn, if_true, Sem.run_pure, Result.andThen_ok, newRow, Sem.run_bind, run_newObj, hm0]
      rw [hce]
      rfl
    · simp only [hn, if_false, Sem.run_bind, run_zero hzz, Result.andThen_ok, Sem.run_pure, newRow, run_newObj]
      rw [hcells]
      rfl
  obtain ⟨q1, q2⟩ := hR.push (B := ⟨zero.length, true, List.replicate v.toNat zero⟩) (cells := cells) (elem := el) (cap := v.toNat) rfl
    (fun r hr => by rw [List.eq_of_mem_replicate hr]; exact ⟨rfl, hleaf⟩) (by simp) (by rw [hcells]; simp)
    (fun i r hr j y hy => by
      have hi : i < v.toNat := by have := (List.getElem?_eq_some_iff.1 hr).1; simpa using this
      have hr' : r = zero := by
        rw [List.getElem?_replicate, if_pos hi] at hr
        exact (Option.some.inj hr).symm
      subst hr'
      have hj := (List.getElem?_eq_some_iff.1 hy).1
      have hq : i * r.length + j < v.toNat * r.length := by
        have : (i + 1) * r.length ≤ v.toNat * r.length := Nat.mul_le_mul_right _ hi
        rw [Nat.add_mul] at this; omega
      refine ⟨_, hcell _ hq, ?_⟩
      have hm : (i * r.length + j) % r.length = j := by rw [Nat.mul_comm, Nat.mul_add_mod]; exact Nat.mod_eq_of_lt hj
      rw [hm]
      obtain ⟨cv, k1, k2⟩ := hcs.get _ _ hy
      have hj' : j < z.cells.size := by omega
      rw [getElem!_pos z.cells j hj']
      have : z.cells[j] = cv := by
        have k1' : z.cells[j]? = some cv := by simpa using k1
        rw [Array.getElem?_eq_getElem hj'] at k1'
        exact Option.some.inj k1'
      rw [this]; exact k2) (WP H pw)
  refine Eff.of_value hrun h ?_ q1 q2
  simp only [VR, Ren.ext, if_true]
  exact ⟨⟨some ⟨w.heap.size, 0, none⟩, by simp, by simp, by simp, fun _ => by simp⟩, fun e => absurd e (Nat.ne_of_gt hR.nx_pos)⟩

/-! ### What is read off a slice -/
theorem first_cells (hR : Rel ρ H w) {id i n k : Nat} {v : Value} {B : Blk} (hv : VR ρ (.l id i n) v) (hB : H.m id = some B) (hin : i + n ≤ B.rows.length) (hk : n = 0 ∨ B.k = k) {m : Nat} (hm : m ≤ n) :
    ∃ vs : List Value, (Builtin.firstCells k m v).run P w = .ok vs.toArray w ∧ vs.length = m * k ∧ (∀ u ∈ vs, u.oneCell' = true) ∧
      ∀ (t : Nat) r, t < m → B.rows[i + t]? = some r → ∀ (j : Nat) x, r[j]? = some x → ∃ cv, vs[t * k + j]? = some cv ∧ VR ρ x cv := by
  have hz := hv
  simp only [VR] at hv
  replace hv := hv.1
  rcases Nat.eq_zero_or_pos m with hm0 | hm0
  · subst hm0
    have hrun : (Builtin.firstCells k 0 v).run P w = .ok #[] w := by
      unfold SlR at hv
      split at hv
      · exact hv.elim
      · obtain ⟨_, _, az, rfl⟩ := hv
        cases az <;> simp [Builtin.firstCells, loadCells, loadCellsFrom]
      · obtain ⟨az, rfl, _⟩ := hv
        cases az <;> simp [Builtin.firstCells, loadCells, loadCellsFrom]
    exact ⟨[], hrun, by simp, by simp, fun t r ht => by omega⟩
  · obtain ⟨x, hx, hok⟩ := hR.blk id B hB
    cases x with
    | none => simp only at hok; rw [hok] at hin; simp at hin; omega
    | some l =>
      simp only at hok
      rw [hx] at hv
      obtain ⟨ad, rfl, h1, h2, h3⟩ := hv.some
      rw [h3 (by omega)]
      have hkk : l.k = k := by rw [hok.k]; rcases hk with h | h; omega; exact h
      have hcell : ∀ q, q < m * k → ∃ r y, B.rows[i + q / k]? = some r ∧ r[q % k]? = some y ∧ ∃ cv, w.cell? ⟨l.b, l.off + i * l.k + q, none⟩ = some cv ∧ VR ρ y cv ∧ y.leaf = true := fun q hq => by
        obtain ⟨d1, d2, d3⟩ := divmod_lt hq
        have hlt : i + q / k < B.rows.length := by omega
        have hmem := List.getElem_mem hlt
        obtain ⟨w1, w2⟩ := hok.wid _ hmem
        have hlt2 : q % k < (B.rows[i + q / k]).length := by rw [w1, ← hok.k, hkk]; exact d2
        obtain ⟨cv, k1, k2⟩ := hok.cel (i + q / k) _ (List.getElem?_eq_getElem hlt) (q % k) _ (List.getElem?_eq_getElem hlt2)
        refine ⟨_, _, List.getElem?_eq_getElem hlt, List.getElem?_eq_getElem hlt2, cv, ?_, k2, List.all_eq_true.1 w2 _ (List.getElem_mem _)⟩
        rw [← k1]
        congr 2
        rw [hkk, Nat.add_mul]
        omega
      have hload := run_loadCells (P := P) w ⟨l.b, l.off + i * l.k, none⟩ (m * k) (fun q => (w.cell? ⟨l.b, l.off + i * l.k + q, none⟩).getD undef) (fun q hq => by
        obtain ⟨_, _, _, _, cv, k1, _⟩ := hcell q hq
        rw [add_addr, k1]; rfl)
      refine ⟨(List.range (m * k)).map fun q => (w.cell? ⟨l.b, l.off + i * l.k + q, none⟩).getD undef, by simpa [Builtin.firstCells] using hload, by simp, ?_, ?_⟩
      · intro u hu
        simp only [List.mem_map, List.mem_range] at hu
        obtain ⟨q, hq, rfl⟩ := hu
        obtain ⟨_, y, _, _, cv, k1, k2, k3⟩ := hcell q hq
        rw [k1]; exact VR.oneCell k3 k2
      · intro t r ht hr j y hy
        have hj : j < k := by
          have := (hok.wid r (List.mem_of_getElem? hr)).1
          have := (List.getElem?_eq_some_iff.1 hy).1
          have := hok.k
          omega
        have hq : t * k + j < m * k := by
          have : (t + 1) * k ≤ m * k := Nat.mul_le_mul_right _ ht
          rw [Nat.add_mul] at this; omega
        obtain ⟨cv, k1, k2⟩ := hok.cel (i + t) r hr j y hy
        refine ⟨cv, ?_, k2⟩
        have he : l.off + (i + t) * l.k + j = l.off + i * l.k + (t * k + j) := by rw [hkk, Nat.add_mul]; omega
        rw [he] at k1
        simp [hq, k1]

theorem VR.isSlice {id i n : Nat} {v : Value} (h : VR ρ (.l id i n) v) : ∃ ad c, v = .slice ad n c := by
  simp only [VR] at h
  replace h := h.1
  unfold SlR at h
  split at h
  · exact h.elim
  · obtain ⟨_, rfl, az, rfl⟩ := h; exact ⟨_, _, rfl⟩
  · obtain ⟨az, rfl, _⟩ := h; exact ⟨_, _, rfl⟩

/-- A slice that is read: its rows. -/
structure SrcOk (P : Program) (ρ : Ren) (w : World) (k n : Nat) (v : Value) (ys : List (List AV)) : Prop where
  sl : ∃ ad c, v = .slice ad n c
  len : ys.length = n
  wid : ∀ r ∈ ys, r.length = k ∧ r.all AV.leaf = true
  cells : ∀ m, m ≤ n → ∃ vs : List Value, (Builtin.firstCells k m v).run P w = .ok vs.toArray w ∧ vs.length = m * k ∧ (∀ u ∈ vs, u.oneCell' = true) ∧
      ∀ (t : Nat) r, t < m → ys[t]? = some r → ∀ (j : Nat) x, r[j]? = some x → ∃ cv, vs[t * k + j]? = some cv ∧ VR ρ x cv

theorem Rel.wids (hR : Rel ρ H w) {id : Nat} {B : Blk} (hB : H.m id = some B) : ∀ r ∈ B.rows, r.length = B.k ∧ r.all AV.leaf = true := by
  obtain ⟨x, hx, hok⟩ := hR.blk id B hB
  cases x with
  | none => simp only at hok; rw [hok]; simp
  | some l => exact hok.wid

theorem SrcOk.of_l (hR : Rel ρ H w) {id i n k : Nat} {v : Value} {B : Blk} (hv : VR ρ (.l id i n) v) (hB : H.m id = some B) (hin : i + n ≤ B.rows.length) (hk : n = 0 ∨ B.k = k) :
    SrcOk P ρ w k n v ((B.rows.drop i).take n) where
  sl := hv.isSlice
  len := by simp; omega
  wid := fun r hr => by
    have hm := List.mem_of_mem_drop (List.mem_of_mem_take hr)
    have := hR.wids hB r hm
    refine ⟨?_, this.2⟩
    rcases hk with h | h
    · subst h; simp at hr
    · rw [this.1, h]
  cells := fun m hm => by
    obtain ⟨vs, h1, h2, h3, h4⟩ := first_cells (P := P) hR hv hB hin hk hm
    refine ⟨vs, h1, h2, h3, fun t r ht hr => h4 t r ht ?_⟩
    have htn : t < n := by omega
    simpa [List.getElem?_take, htn, List.getElem?_drop] using hr

theorem SrcOk.of_q (hR : Rel ρ H w) {k : Nat} {v : Value} {rows : List (List AV)} (hv : VR ρ (.q rows) v) (hw : ∀ r ∈ rows, r.length = k ∧ r.all AV.leaf = true) :
    SrcOk P ρ w k rows.length v rows := by
  simp only [VR] at hv
  obtain ⟨vss, hvss, hq⟩ := hv
  have hvl := hvss.length
  have nilRun : ∀ (ad : Option Addr) (n c : Nat), (Builtin.firstCells k 0 (.slice ad n c)).run P w = .ok #[] w := fun ad n c => by
    cases ad <;> simp [Builtin.firstCells, loadCells, loadCellsFrom]
  rcases hq with ⟨rfl, ad, c, rfl⟩ | ⟨b, off, k', cap, hne, rfl, hcap, hcon⟩
  · have hr : rows = [] := List.eq_nil_of_length_eq_zero (by simpa using hvl.symm)
    subst hr
    exact ⟨⟨ad, c, rfl⟩, rfl, hw, fun m hm => ⟨[], by simp only [List.length_nil, Nat.le_zero_eq] at hm; subst hm; exact nilRun _ _ _, by simp only [List.length_nil, Nat.le_zero_eq] at hm; subst hm; simp, by simp, fun t r ht hr => by simp at hr⟩⟩
  · refine ⟨⟨_, cap, by rw [hvl]⟩, rfl, hw, fun m hm => ?_⟩
    have hkk : k' = k := by
      have hlt : 0 < vss.length := List.length_pos_iff.2 hne
      have h1 := (hcon 0 _ (List.getElem?_eq_getElem hlt)).1
      obtain ⟨r0, hr0⟩ : ∃ r, rows[0]? = some r := ⟨_, List.getElem?_eq_getElem (by omega)⟩
      obtain ⟨v0, hv0, hv1⟩ := hvss.get 0 r0 hr0
      rw [List.getElem?_eq_getElem hlt] at hv0
      simp only [Option.some.injEq] at hv0
      rw [hv0, hv1.length] at h1
      rw [← h1]
      exact (hw r0 (List.mem_of_getElem? hr0)).1
    subst hkk
    have hcell : ∀ q, q < m * k' → ∃ r y, rows[q / k']? = some r ∧ r[q % k']? = some y ∧ ∃ cv, w.cell? ⟨b, off + q, none⟩ = some cv ∧ VR ρ y cv ∧ y.leaf = true := fun q hq => by
      obtain ⟨d1, d2, d3⟩ := divmod_lt hq
      obtain ⟨r, hr⟩ : ∃ r, rows[q / k']? = some r := ⟨_, List.getElem?_eq_getElem (by omega)⟩
      obtain ⟨vs, hvs1, hvs2⟩ := hvss.get _ _ hr
      obtain ⟨w1, w2⟩ := hw r (List.mem_of_getElem? hr)
      obtain ⟨y, hy⟩ : ∃ y, r[q % k']? = some y := ⟨_, List.getElem?_eq_getElem (by omega)⟩
      obtain ⟨cv, hcv1, hcv2⟩ := hvs2.get _ _ hy
      have hc := (hcon _ _ hvs1).2 _ _ hcv1
      refine ⟨r, y, hr, hy, cv, ?_, hcv2, List.all_eq_true.1 w2 _ (List.mem_of_getElem? hy)⟩
      rw [← (hR.con _ _ _ hc).1]
      congr 2
      omega
    have hload := run_loadCells (P := P) w ⟨b, off, none⟩ (m * k') (fun q => (w.cell? ⟨b, off + q, none⟩).getD undef) (fun q hq => by
      obtain ⟨_, _, _, _, cv, k1, _⟩ := hcell q hq
      rw [add_addr, k1]; rfl)
    refine ⟨(List.range (m * k')).map fun q => (w.cell? ⟨b, off + q, none⟩).getD undef, by simpa [Builtin.firstCells] using hload, by simp, ?_, ?_⟩
    · intro u hu
      simp only [List.mem_map, List.mem_range] at hu
      obtain ⟨q, hq, rfl⟩ := hu
      obtain ⟨_, y, _, _, cv, k1, k2, k3⟩ := hcell q hq
      rw [k1]; exact VR.oneCell k3 k2
    · intro t r ht hr j y hy
      have hj : j < k' := by
        have := (hw r (List.mem_of_getElem? hr)).1
        have := (List.getElem?_eq_some_iff.1 hy).1
        omega
      have hq : t * k' + j < m * k' := by
        have : (t + 1) * k' ≤ m * k' := Nat.mul_le_mul_right _ ht
        rw [Nat.add_mul] at this; omega
      obtain ⟨vs, hvs1, hvs2⟩ := hvss.get _ _ hr
      obtain ⟨cv, hcv1, hcv2⟩ := hvs2.get _ _ hy
      have hc := (hcon _ _ hvs1).2 _ _ hcv1
      refine ⟨cv, ?_, hcv2⟩
      have := (hR.con _ _ _ hc).1
      rw [Nat.add_assoc] at this
      simp [hq, this]

/-- Some rows of a block written over. -/
theorem BlkOk.overwrite {l : Loc} {B : Blk} (h : BlkOk ρ w l B) (ho : B.own = true) {i m : Nat} {ys : List (List AV)} (hm : ys.length = m) (him : i + m ≤ B.rows.length) (hy : ∀ r ∈ ys, r.length = B.k ∧ r.all AV.leaf = true)
    {vs : List Value} (hl : vs.length = m * B.k) (hvs : ∀ (t : Nat) r, ys[t]? = some r → ∀ (j : Nat) x, r[j]? = some x → ∃ cv, vs[t * B.k + j]? = some cv ∧ VR ρ x cv) :
    BlkOk ρ (w.setCells l.b (l.off + i * l.k) vs) l { B with rows := B.rows.take i ++ ys ++ B.rows.drop (i + m) } ∧
    (∀ q, q < vs.length → (w.cell? ⟨l.b, l.off + i * l.k + q, none⟩).isSome = true) ∧ (∀ q, q < vs.length → w.frozen? ⟨l.b, l.off + i * l.k + q, none⟩ = false) := by
  have hk := h.k
  have hcap : i * l.k + vs.length ≤ l.cap * l.k := by
    rw [hl, ← hk, ← Nat.add_mul]
    exact Nat.mul_le_mul_right _ (by have := h.len; have := h.cap; omega)
  obtain ⟨c1, c2, c3, c4, c5⟩ := setCells_at h ho (i * l.k) vs hcap
  obtain ⟨g1, g2⟩ := setCells_heap l.b vs (l.off + i * l.k) w
  have hti : (B.rows.take i).length = i := by simp; omega
  refine ⟨⟨h.k, ?_, h.cap, ?_, ?_, fun _ => c5, by rw [g1]; exact h.fit⟩, c1, c2⟩
  · have := h.len; simp; omega
  · intro r hr
    simp only [List.mem_append] at hr
    rcases hr with (hr | hr) | hr
    · exact h.wid r (List.mem_of_mem_take hr)
    · exact hy r hr
    · exact h.wid r (List.mem_of_mem_drop hr)
  · intro t r hr j x hx
    simp only [List.append_assoc] at hr
    rw [List.getElem?_append, hti] at hr
    have hj : j < l.k := by
      have hlen : r.length = B.k := by
        split at hr
        · exact (h.wid r (List.mem_of_mem_take (List.mem_of_getElem? hr))).1
        · rw [List.getElem?_append] at hr
          split at hr
          · exact (hy r (List.mem_of_getElem? hr)).1
          · exact (h.wid r (List.mem_of_mem_drop (List.mem_of_getElem? hr))).1
      have := (List.getElem?_eq_some_iff.1 hx).1
      omega
    split at hr
    · rename_i ht
      rw [List.getElem?_take, if_pos ht] at hr
      obtain ⟨cv, k1, k2⟩ := h.cel t r hr j x hx
      refine ⟨cv, ?_, k2⟩
      rw [Nat.add_assoc, c4 _ ?_, ← Nat.add_assoc]
      · exact k1
      · left
        have : (t + 1) * l.k ≤ i * l.k := Nat.mul_le_mul_right _ ht
        rw [Nat.add_mul] at this; omega
    · rename_i ht
      rw [List.getElem?_append, hm] at hr
      split at hr
      · rename_i ht2
        obtain ⟨cv, k1, k2⟩ := hvs (t - i) r hr j x hx
        refine ⟨cv, ?_, k2⟩
        have hq := (List.getElem?_eq_some_iff.1 k1).1
        have := c3 _ hq
        have he : l.off + t * l.k + j = l.off + i * l.k + ((t - i) * B.k + j) := by
          rw [← hk]
          have : t * l.k = i * l.k + (t - i) * l.k := by rw [← Nat.add_mul]; congr 1; omega
          omega
        rw [he, this]
        rw [List.getElem?_eq_getElem hq] at k1
        exact k1
      · rename_i ht2
        rw [List.getElem?_drop, show i + m + (t - i - m) = t by omega] at hr
        obtain ⟨cv, k1, k2⟩ := h.cel t r hr j x hx
        refine ⟨cv, ?_, k2⟩
        rw [Nat.add_assoc, c4 _ ?_, ← Nat.add_assoc]
        · exact k1
        · right
          rw [hl, ← hk, ← Nat.add_mul]
          have : (i + m) * l.k ≤ t * l.k := Nat.mul_le_mul_right _ (by omega)
          omega

theorem put_self {id : Nat} {B : Blk} (h : H.m id = some B) : H.put id B = H := by
  refine AH.ext' (fun j => ?_) rfl
  simp only [AH.put]
  split
  · rename_i e; rw [e.1]; exact h.symm
  · rfl

/-! ### copy -/
theorem e_cpy (hf : FrOk ρ fr a) (hs : a.tmps.size = nt) (hR : Rel ρ H w) {k : Nat} {x y : Od} (hc : checkOp P nt o.op (.cpy k x y) = true)
    (h : aop (env P) pw rd (.cpy k x y) fr H K) : Eff P (WP H pw) ρ H w a o K := by
  have h0 := hR.nil.2
  simp only [checkOp] at hc
  split at hc
  case h_2 => cases hc
  rename_i args' ts e
  simp only [Bool.and_eq_true] at hc
  obtain ⟨h1, h2⟩ := hc
  have r := odsOk.VRs hf hs h0 h1
  split at h2
  case h_2 => cases h2
  rename_i t t' hts
  simp only [Bool.and_eq_true] at h2
  obtain ⟨h2, h3⟩ := h2
  split at h2
  case h_2 => cases h2
  rename_i el hel
  simp only [beq_iff_eq] at h2
  have hu := tyElem_spec hel
  have hts' : ts = #[t, t'] := by apply Array.toList_inj.1; rw [hts]
  subst hts'
  simp only [List.map_cons, List.map_nil, VRs] at r
  obtain ⟨u, _, ea, hv, v, _, rfl, hv', rfl⟩ := r
  have hargs : args'.map a.eval = #[u, v] := by
    apply Array.toList_inj.1
    rw [Array.toList_map]; exact ea
  simp only [aop] at h
  have main : ∀ (id i n n' : Nat) (B : Blk) (ys : List (List AV)), fr.ev x = .l id i n → H.m id = some B → pw id → B.own = true → B.k = k → SrcOk P ρ w k n' v ys → i + n ≤ B.rows.length →
      K (.n .i64 (min n' n : Nat)) (H.put id { B with rows := B.rows.take i ++ ys.take (min n' n) ++ B.rows.drop (i + min n' n) }) → Eff P (WP H pw) ρ H w a o K := by
    intro id i n n' B ys ex hB hpw ho hk1 hsrc hin h
    rw [ex] at hv
    have hvz := hv
    obtain ⟨ad, c, rfl⟩ := hv.isSlice
    obtain ⟨ad', c', rfl⟩ := hsrc.sl
    have hyl := hsrc.len
    obtain ⟨vs, hfirst, hvl, hv1, hvg⟩ := hsrc.cells (Nat.min n' n) (Nat.min_le_left _ _)
    have hstart : (execOp a.eval o).run P w = ((match ad with | some az => storeCells az vs | none => (Pure.pure () : Sem Unit)).run P w).andThen fun _ w2 => .ok (.value (goInt (Nat.min n' n))) w2 := by
      cases ad <;> simp only [execOp, e, resolve, Sem.run_bind, Sem.run_pure, Result.andThen_ok, invoke, builtin, hargs, Builtin.copy_]
      all_goals
        simp only [List.getElem?_toArray, List.getElem?_cons_zero, List.getElem?_cons_succ, Sem.run_bind, run_underlying hu, Result.andThen_ok, Builtin.lenOf, Sem.run_pure, run_sizeOf' h2, hfirst]
      cases (storeCells _ vs : Sem Unit).run P w <;> rfl
    rcases Nat.eq_zero_or_pos (min n' n) with hm | hm
    · have hve : vs = [] := List.eq_nil_of_length_eq_zero (by rw [hvl, show Nat.min n' n = 0 from hm]; simp)
      subst hve
      have hrun : (execOp a.eval o).run P w = .ok (.value (.int .i64 ((min n' n : Nat) : Int))) w := by
        rw [hstart]
        cases ad <;> simp [storeCells, goInt]
      have hrows : ({ B with rows := B.rows.take i ++ ys.take (min n' n) ++ B.rows.drop (i + min n' n) } : Blk) = B := by
        rw [hm]; simp
      rw [hrows, put_self hB] at h
      exact Eff.of_value hrun h vr_n hR (Reach.refl _ _ _ _)
    · obtain ⟨xx, hx, hok⟩ := hR.blk id B hB
      cases xx with
      | none => simp only at hok; rw [hok] at hin; simp at hin; omega
      | some l =>
        simp only at hok
        simp only [VR] at hvz
        have hsl := hvz.1
        rw [hx] at hsl
        obtain ⟨az, e1, e2, e3, e4⟩ := hsl.some
        simp only [Value.slice.injEq] at e1
        obtain ⟨rfl, _, _⟩ := e1
        have had := e4 (by omega)
        subst had
        have hys : (ys.take (min n' n)).length = min n' n := by simp; omega
        obtain ⟨hnew, c1, c2⟩ := hok.overwrite ho (i := i) hys (by omega) (fun r hr => by
          have := hsrc.wid r (List.mem_of_mem_take hr)
          exact ⟨this.1.trans hk1.symm, this.2⟩) (vs := vs) (by rw [hvl, hk1]) (fun tt r hr j x hx => by
          have htt : tt < min n' n := by have := (List.getElem?_eq_some_iff.1 hr).1; omega
          rw [hk1]
          refine hvg tt r htt ?_ j x hx
          simpa [List.getElem?_take, htt] using hr)
        have hst : (storeCells ⟨l.b, l.off + i * l.k, none⟩ vs 0).run P w = .ok () (w.setCells l.b (l.off + i * l.k + 0) vs) :=
          run_storeCells_cells (P := P) l.b (l.off + i * l.k) _ 0 w (fun q hq => by simpa using c1 q hq) (fun q hq => by simpa using c2 q hq) hv1
        rw [Nat.add_zero] at hst
        obtain ⟨g1, g2⟩ := setCells_heap l.b vs (l.off + i * l.k) w
        obtain ⟨q1, q2⟩ := hR.write (B' := { B with rows := B.rows.take i ++ ys.take (min n' n) ++ B.rows.drop (i + min n' n) }) (W := WP H pw) hB hx ho ho g1 g2 hnew (setCells_env _ _ _ _) ⟨⟨B, hB, ho⟩, hpw⟩
        refine Eff.of_value ?_ h vr_n q1 q2
        rw [hstart]
        simp only [hst, Result.andThen_ok, goInt]
  split at h
  case h_3 => exact h.elim
  · rename_i id i n id' i' n' ex ey
    split at h
    case h_2 => exact h.elim
    rename_i B B' hB hB'
    obtain ⟨hpw, ho, hk1, hk2, hin, hin', h⟩ := h
    rw [ey] at hv'
    exact main id i n n' B _ ex hB hpw ho hk1 (SrcOk.of_l hR hv' hB' hin' (.inr hk2)) hin (by simpa [List.take_take] using h)
  · rename_i id i n rows ex ey
    split at h
    case h_2 => exact h.elim
    rename_i B hB
    obtain ⟨hpw, ho, hk1, hw, hin, h⟩ := h
    rw [ey] at hv'
    exact main id i n _ B _ ex hB hpw ho hk1 (SrcOk.of_q hR hv' hw) hin h
end
end Go.Proofs.Ytamnlngihccgiaa.AM
