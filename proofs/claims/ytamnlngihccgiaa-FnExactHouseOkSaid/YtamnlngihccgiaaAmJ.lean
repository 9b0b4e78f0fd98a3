/- The operations that make or write memory: stores, new blocks, calls. -/
import Derived.Test.YtamnlngihccgiaaAmI
namespace Go.Proofs.Ytamnlngihccgiaa.AM
set_option linter.all false
open Go
section
variable {P : Program} {nt : Nat} {ρ : Ren} {fr : Fr} {a : Act} {H : AH} {w : World} {o : Oper} {K : AV → AH → Prop} {pw rd : Nat → Prop}

def WP (H : AH) (pw : Nat → Prop) : Nat → Prop := fun id => ownP H id ∧ pw id

theorem Eff.of_value {W : Nat → Prop} {cv : Value} {av : AV} {ρ' : Ren} {H' : AH} {w' : World} (hr : (execOp a.eval o).run P w = .ok (.value cv) w') (hK : K av H') (hv : VR ρ' av cv) (hR : Rel ρ' H' w') (hre : Reach W ρ H w ρ' H' w') : Eff P W ρ H w a o K := by
  intro Q
  unfold Oper.wp
  rw [hr]
  exact ⟨cv, av, ρ', H', rfl, hK, hv, hR, hre⟩
theorem Eff.of_skip {W : Nat → Prop} {ρ' : Ren} {H' : AH} {w' : World} (hr : (execOp a.eval o).run P w = .ok .skip w') (hK : K (.t []) H') (hR : Rel ρ' H' w') (hre : Reach W ρ H w ρ' H' w') : Eff P W ρ H w a o K := by
  intro Q
  unfold Oper.wp
  rw [hr]
  exact ⟨undef, .t [], ρ', H', rfl, hK, by simp only [VR]; exact ⟨[], rfl, rfl⟩, hR, hre⟩

theorem VRs.oneCell {xs : List AV} {vs : List Value} (hl : xs.all AV.leaf = true) (h : VRs ρ xs vs) : ∀ v ∈ vs, v.oneCell' = true := by
  intro v hv
  obtain ⟨i, hi, rfl⟩ := List.getElem_of_mem hv
  have hlen := h.length
  obtain ⟨u, hu, hr⟩ := h.get i xs[i] (List.getElem?_eq_getElem (by omega))
  rw [List.getElem?_eq_getElem hi] at hu
  simp only [Option.some.injEq] at hu
  rw [hu]
  exact VR.oneCell (List.all_eq_true.1 hl _ (List.getElem_mem _)) hr

/-- What a block holds behind a write of some of its cells, from cell p on. -/
theorem setCells_at {l : Loc} {B : Blk} (h : BlkOk ρ w l B) (ho : B.own = true) (p : Nat) (vs : List Value) (hp : p + vs.length ≤ l.cap * l.k) :
    (∀ q, q < vs.length → (w.cell? ⟨l.b, l.off + p + q, none⟩).isSome = true) ∧ (∀ q, q < vs.length → w.frozen? ⟨l.b, l.off + p + q, none⟩ = false) ∧
    (∀ q (hq : q < vs.length), (w.setCells l.b (l.off + p) vs).cell? ⟨l.b, l.off + p + q, none⟩ = some vs[q]) ∧
    (∀ q, (q < p ∨ p + vs.length ≤ q) → (w.setCells l.b (l.off + p) vs).cell? ⟨l.b, l.off + q, none⟩ = w.cell? ⟨l.b, l.off + q, none⟩) ∧
    (∀ q, q < l.cap * l.k → (∃ cv, (w.setCells l.b (l.off + p) vs).cell? ⟨l.b, l.off + q, none⟩ = some cv) ∧ (w.setCells l.b (l.off + p) vs).frozen? ⟨l.b, l.off + q, none⟩ = false) := by
  have h1 : ∀ q, q < vs.length → (w.cell? ⟨l.b, l.off + p + q, none⟩).isSome = true := fun q hq => by
    obtain ⟨⟨cv, hc⟩, _⟩ := h.wr ho (p + q) (by omega)
    rw [Nat.add_assoc, hc]; rfl
  have h2 : ∀ q, q < vs.length → w.frozen? ⟨l.b, l.off + p + q, none⟩ = false := fun q hq => by
    rw [Nat.add_assoc]; exact (h.wr ho (p + q) (by omega)).2
  have h3 : ∀ q (hq : q < vs.length), (w.setCells l.b (l.off + p) vs).cell? ⟨l.b, l.off + p + q, none⟩ = some vs[q] :=
    World.cell?_setCells_in l.b vs (l.off + p) w h1
  have h4 : ∀ q, (q < p ∨ p + vs.length ≤ q) → (w.setCells l.b (l.off + p) vs).cell? ⟨l.b, l.off + q, none⟩ = w.cell? ⟨l.b, l.off + q, none⟩ := fun q hq =>
    World.cell?_setCells_out l.b vs (l.off + p) w _ (fun _ _ => by simp only; omega)
  refine ⟨h1, h2, h3, h4, fun q hq => ⟨?_, by rw [World.frozen?_setCells]; exact (h.wr ho q hq).2⟩⟩
  by_cases hin : q < p ∨ p + vs.length ≤ q
  · rw [h4 q hin]; exact (h.wr ho q hq).1
  · have := h3 (q - p) (by omega)
    rw [Nat.add_assoc, show p + (q - p) = q by omega] at this
    exact ⟨_, this⟩

theorem putAt_get {r cs : List AV} {j : Nat} (h : j + cs.length ≤ r.length) (q : Nat) : (putAt r j cs)[q]? = if q < j then r[q]? else if q < j + cs.length then cs[q - j]? else r[q]? := by
  unfold putAt
  have m1 : min j r.length = j := Nat.min_eq_left (by omega)
  rw [List.getElem?_append, List.getElem?_append]
  simp only [List.length_append, List.length_take, m1]
  split
  · rename_i h1
    split
    · rename_i h2; simp [h2]
    · rfl
  · rename_i h1
    rw [if_neg (by omega), List.getElem?_drop]
    congr 1; omega

theorem e_stor (hf : FrOk ρ fr a) (hs : a.tmps.size = nt) (hR : Rel ρ H w) {sz : Nat} {x v : Od} (hc : checkOp P nt o.op (.stor sz x v) = true)
    (h : aop (env P) pw rd (.stor sz x v) fr H K) : Eff P (WP H pw) ρ H w a o K := by
  have h0 := hR.nil.2
  simp only [checkOp] at hc
  split at hc
  case h_2 => cases hc
  rename_i t x' v' e
  simp only [Bool.and_eq_true, beq_iff_eq] at hc
  obtain ⟨⟨hsz, h1⟩, h2⟩ := hc
  have r1 := odOk.VR hf hs h0 h1
  have r2 := odOk.VR hf hs h0 h2
  simp only [aop] at h
  split at h
  case h_2 => exact h.elim
  rename_i id i j ex
  obtain ⟨hpw, h⟩ := h
  split at h
  case h_2 => exact h.elim
  rename_i B hB
  obtain ⟨ho, h⟩ := h
  split at h
  case h_2 => exact h.elim
  rename_i r hr
  obtain ⟨hlen, hj, hleaf, h⟩ := h
  rw [ex] at r1
  simp only [VR] at r1
  obtain ⟨l, hl, ev⟩ := r1
  obtain ⟨xx, hx, hok⟩ := hR.blk id B hB
  rw [hl] at hx
  simp only [Option.some.injEq] at hx
  subst hx
  simp only at hok
  have hcs := VR.cells hleaf r2
  have hcl : (a.eval v').cells.toList.length = sz := by rw [hcs.length, hlen]
  have hrk := hok.wid r (List.mem_of_getElem? hr)
  have hi : i < B.rows.length := (List.getElem?_eq_some_iff.1 hr).1
  have hik : i * l.k + l.k ≤ l.cap * l.k := by
    have : (i + 1) * l.k ≤ l.cap * l.k := Nat.mul_le_mul_right _ (by have := hok.len; have := hok.cap; omega)
    rw [Nat.add_mul] at this; omega
  have hkk := hok.k
  obtain ⟨c1, c2, c3, c4, c5⟩ := setCells_at hok ho (i * l.k + j) (a.eval v').cells.toList (by rw [hcl]; omega)
  have hst : (storeCells ⟨l.b, l.off + (i * l.k + j), none⟩ (a.eval v').cells.toList 0).run P w = .ok () (w.setCells l.b (l.off + (i * l.k + j) + 0) (a.eval v').cells.toList) :=
    run_storeCells_cells (P := P) l.b (l.off + (i * l.k + j)) _ 0 w (fun q hq => by simpa using c1 q hq) (fun q hq => by simpa using c2 q hq) (hcs.oneCell hleaf)
  rw [Nat.add_zero] at hst
  have hrun : (execOp a.eval o).run P w = .ok .skip (w.setCells l.b (l.off + (i * l.k + j)) (a.eval v').cells.toList) := by
    have hcz : (a.eval v').cells.size = sz := by rw [← hcl]; simp
    simp only [execOp, e, Instr.storeAt, ev, Instr.sureAddr, Sem.run_bind, Sem.run_pure, Result.andThen_ok, storeVar, run_sizeOf' hsz, hcz, ne_eq, not_true_eq_false, if_false]
    rw [Nat.add_assoc, hst]
    rfl
  obtain ⟨g1, g2⟩ := setCells_heap l.b (a.eval v').cells.toList (l.off + (i * l.k + j)) w
  have hnew : BlkOk ρ (w.setCells l.b (l.off + (i * l.k + j)) (a.eval v').cells.toList) l { B with rows := B.rows.set i (putAt r j (cellsOf (fr.ev v))) } := by
    refine ⟨hok.k, by simpa using hok.len, hok.cap, ?_, ?_, fun _ => c5, by rw [g1]; exact hok.fit⟩
    · intro r' hr'
      rcases List.mem_or_eq_of_mem_set hr' with hm | rfl
      · exact hok.wid r' hm
      · refine ⟨by rw [putAt_length (by omega)]; exact hrk.1, ?_⟩
        simp only [putAt, List.all_append, Bool.and_eq_true]
        refine ⟨⟨?_, hleaf⟩, ?_⟩
        · exact List.all_eq_true.2 fun y hy => List.all_eq_true.1 hrk.2 y (List.mem_of_mem_take hy)
        · exact List.all_eq_true.2 fun y hy => List.all_eq_true.1 hrk.2 y (List.mem_of_mem_drop hy)
    · intro i' r' hr' j' y hy
      simp only [List.getElem?_set] at hr'
      by_cases hii : i = i'
      · subst hii
        simp only [if_true, hi, Option.some.injEq] at hr'
        subst hr'
        rw [putAt_get (by omega)] at hy
        split at hy
        · rename_i hlt
          obtain ⟨cv, k1, k2⟩ := hok.cel i r hr j' y hy
          exact ⟨cv, by rw [Nat.add_assoc, c4 _ (by omega), ← Nat.add_assoc]; exact k1, k2⟩
        · split at hy
          · rename_i hge hlt
            obtain ⟨cv, k1, k2⟩ := hcs.get _ _ hy
            have hq := (List.getElem?_eq_some_iff.1 k1).1
            refine ⟨cv, ?_, k2⟩
            have := c3 (j' - j) hq
            rw [show l.off + i * l.k + j' = l.off + (i * l.k + j) + (j' - j) by omega, this]
            rw [← k1, List.getElem?_eq_getElem hq]
          · rename_i hge hge2
            obtain ⟨cv, k1, k2⟩ := hok.cel i r hr j' y hy
            exact ⟨cv, by rw [Nat.add_assoc, c4 _ (by omega), ← Nat.add_assoc]; exact k1, k2⟩
      · rw [if_neg hii] at hr'
        obtain ⟨cv, k1, k2⟩ := hok.cel i' r' hr' j' y hy
        have hj' : j' < l.k := by
          have := (hok.wid r' (List.mem_of_getElem? hr')).1
          have := (List.getElem?_eq_some_iff.1 hy).1
          omega
        refine ⟨cv, ?_, k2⟩
        rw [Nat.add_assoc, c4 _ ?_, ← Nat.add_assoc]
        · exact k1
        · rcases Nat.lt_or_gt_of_ne hii with hlt | hlt
          · right
            have : (i + 1) * l.k ≤ i' * l.k := Nat.mul_le_mul_right _ hlt
            rw [Nat.add_mul] at this; omega
          · left
            have : (i' + 1) * l.k ≤ i * l.k := Nat.mul_le_mul_right _ hlt
            rw [Nat.add_mul] at this; omega
  obtain ⟨q1, q2⟩ := hR.write (B' := { B with rows := B.rows.set i (putAt r j (cellsOf (fr.ev v))) }) (W := WP H pw) hB hl ho ho g1 g2 hnew (setCells_env _ _ _ _) ⟨⟨B, hB, ho⟩, hpw⟩
  exact Eff.of_skip hrun h q1 q2

theorem e_box (hf : FrOk ρ fr a) (hs : a.tmps.size = nt) (hR : Rel ρ H w) {v : Od} (hc : checkOp P nt o.op (.box v) = true)
    (h : aop (env P) pw rd (.box v) fr H K) : Eff P (WP H pw) ρ H w a o K := by
  have h0 := hR.nil.2
  simp only [checkOp] at hc
  split at hc
  case h_2 => cases hc
  rename_i t v' e
  have r := odOk.VR hf hs h0 hc
  simp only [aop] at h
  obtain ⟨hleaf, h⟩ := h
  have hcs := VR.cells hleaf r
  have hlen := hcs.length
  obtain ⟨q1, q2⟩ := hR.push (B := ⟨(cellsOf (fr.ev v)).length, true, [cellsOf (fr.ev v)]⟩) (cells := (a.eval v').cells) (elem := t) (cap := 1) rfl (by simpa using hleaf) (by simp) (by simp at hlen ⊢; omega)
    (fun i r hr j y hy => by
      cases i with
      | zero => simp at hr; subst hr; obtain ⟨cv, k1, k2⟩ := hcs.get _ _ hy; exact ⟨cv, by simpa using k1, k2⟩
      | succ i => simp at hr) (WP H pw)
  refine Eff.of_value (cv := .pointer (some ⟨w.heap.size, 0, none⟩)) ?_ h ?_ q1 q2
  · simp only [execOp, e, Instr.box, newVar, newRow, Sem.run_bind, Sem.run_pure, run_newObj, Result.andThen_ok]
    rfl
  · simp only [VR, Ren.ext, if_true]
    exact ⟨_, rfl, by simp⟩

theorem run_zero {t : TypeId} {z : Value} (hz : tyZero P t = some z) (w : World) : (zeroValue t).run P w = .ok z w := by
  unfold tyZero at hz
  cases hi : P.info? t with
  | none => simp [hi] at hz
  | some i => simp [hi] at hz; simp [zeroValue, typeInfo, hi, hz]

theorem e_aloc (hR : Rel ρ H w) {zero : List AV} (hc : checkOp P nt o.op (.aloc zero) = true)
    (h : aop (env P) pw rd (.aloc zero) fr H K) : Eff P (WP H pw) ρ H w a o K := by
  have h0 := hR.nil.2
  simp only [checkOp] at hc
  split at hc
  case h_2 => cases hc
  rename_i t e
  split at hc
  case h_2 => cases hc
  rename_i z hz
  have hcs := VRs.of_valsOk h0 _ _ hc
  have hlen := hcs.length
  simp only [aop] at h
  obtain ⟨hleaf, h⟩ := h
  obtain ⟨q1, q2⟩ := hR.push (B := ⟨zero.length, true, [zero]⟩) (cells := z.cells) (elem := t) (cap := 1) rfl (by simpa using hleaf) (by simp) (by simp at hlen ⊢; omega)
    (fun i r hr j y hy => by
      cases i with
      | zero => simp at hr; subst hr; obtain ⟨cv, k1, k2⟩ := hcs.get _ _ hy; exact ⟨cv, by simpa using k1, k2⟩
      | succ i => simp at hr) (WP H pw)
  refine Eff.of_value (cv := .pointer (some ⟨w.heap.size, 0, none⟩)) ?_ h ?_ q1 q2
  · simp only [execOp, e, Instr.alloc, newVar, newRow, Sem.run_bind, Sem.run_pure, run_newObj, run_zero hz, Result.andThen_ok]
    rfl
  · simp only [VR, Ren.ext, if_true]
    exact ⟨_, rfl, by simp⟩
end
end Go.Proofs.Ytamnlngihccgiaa.AM
