/- append, and a slice written out. -/
import Derived.Test.YtamnlngihccgiaaAmM
namespace Go.Proofs.Ytamnlngihccgiaa.AM
set_option linter.all false
open Go
section
variable {P : Program} {nt : Nat} {ρ : Ren} {fr : Fr} {a : Act} {H : AH} {w : World} {o : Oper} {K : AV → AH → Prop} {pw rd : Nat → Prop}

theorem growBy_le (newLen : Nat) : ∀ r c, Builtin.growBy newLen r c ≤ max c (2 * newLen + 192) := by
  intro r
  induction r with
  | zero => intro c; simp [Builtin.growBy]; omega
  | succ r ih =>
    intro c
    unfold Builtin.growBy
    split
    · omega
    · have := ih (c + (c + 768) / 4)
      omega
theorem nextslicecap_le {need cap : Nat} (h : cap < need) : Builtin.nextslicecap need cap ≤ 3 * need := by
  unfold Builtin.nextslicecap
  split
  · omega
  · split
    · omega
    · have := growBy_le need 4 cap
      omega

set_option maxRecDepth 4000 in
theorem e_app (hf : FrOk ρ fr a) (hs : a.tmps.size = nt) (hR : Rel ρ H w) {by_ k : Nat} {x y : Od} (hc : checkOp P nt o.op (.app by_ k x y) = true)
    (h : aop (env P) pw rd (.app by_ k x y) fr H K) : Eff P (WP H pw) ρ H w a o K := by
  have h0 := hR.nil.2
  simp only [checkOp] at hc
  split at hc
  case h_2 => cases hc
  rename_i args' ts e
  simp only [Bool.and_eq_true] at hc
  obtain ⟨h1, h2⟩ := hc
  have r := odsOk.VRs hf hs h0 h1
  split at h2
  case h_2 => cases h2
  rename_i t t' hts
  simp only [Bool.and_eq_true] at h2
  obtain ⟨h2, h3⟩ := h2
  split at h2
  case h_2 => cases h2
  rename_i el hel
  simp only [Bool.and_eq_true, beq_iff_eq, bne_iff_ne] at h2
  obtain ⟨⟨⟨⟨hby, hby0⟩, hsz⟩, hk0⟩, hz⟩ := h2
  split at hz
  case h_2 => cases hz
  rename_i z hzz
  simp only [beq_iff_eq] at hz
  obtain ⟨el', hel'⟩ := Option.isSome_iff_exists.1 h3
  have hu := tyElem_spec hel
  have hu' := tyElem_spec hel'
  have hts' : ts = #[t, t'] := by apply Array.toList_inj.1; rw [hts]
  subst hts'
  simp only [List.map_cons, List.map_nil, VRs] at r
  obtain ⟨u, _, ea, hv, v, _, rfl, hv', rfl⟩ := r
  have hargs : args'.map a.eval = #[u, v] := by
    apply Array.toList_inj.1
    rw [Array.toList_map]; exact ea
  simp only [aop] at h
  have main : ∀ (id i n n' : Nat) (B : Blk) (ys : List (List AV)), fr.ev x = .l id i n → H.m id = some B → (∀ w', Rel ρ H w' → SrcOk P ρ w' k n' v ys) → (id = 0 ∨ B.k = k) → i + n ≤ B.rows.length →
      (n + n') * by_ ≤ 70368744177664 → B.own = true → (id = 0 ∨ pw id) → K (.l H.nx 0 (n + n')) ((H.kill id).push ⟨k, true, (B.rows.drop i).take n ++ ys⟩) → Eff P (WP H pw) ρ H w a o K := by
    intro id i n n' B ys ex hB hsrcs hk1 hin hbound ho hpw h
    have hsrc := hsrcs w hR
    rw [ex] at hv
    have hvz := hv
    obtain ⟨ad, c, rfl⟩ := hv.isSlice
    obtain ⟨ad', c', rfl⟩ := hsrc.sl
    have hyl := hsrc.len
    have hn0 : id = 0 → n = 0 := fun e => by
      subst e
      have := hR.nil.1
      rw [this] at hB
      simp only [Option.some.injEq] at hB
      subst hB
      simp [nilBlk] at hin; omega
    have hk1' : n = 0 ∨ B.k = k := by
      rcases hk1 with h | h
      · exact .inl (hn0 h)
      · exact .inr h
    obtain ⟨vs, hfirst, hvl, hv1, hvg⟩ := hsrc.cells n' (Nat.le_refl _)
    obtain ⟨us, hfirst0, hul, hu1, hug⟩ := first_cells (P := P) hR hvz hB hin hk1' (m := n) (Nat.le_refl _)
    have hbytes : ∀ w, (typeInfo el).run P w = .ok ((P.info? el).getD default) w ∧ ((P.info? el).getD default).bytes = by_ := fun w => by
      unfold tyBytes at hby
      cases hi : P.info? el with
      | none => simp [hi] at hby
      | some i => simp [hi] at hby; simp [typeInfo, hi, hby]
    have hys : ((B.rows.drop i).take n ++ ys).length = n + n' := by simp [hyl]; omega
    have hrowsk : ∀ r ∈ (B.rows.drop i).take n ++ ys, r.length = k ∧ r.all AV.leaf = true := fun r hr => by
      rcases List.mem_append.1 hr with hr | hr
      · have hm := List.mem_of_mem_drop (List.mem_of_mem_take hr)
        have := hR.wids hB r hm
        refine ⟨?_, this.2⟩
        rcases hk1' with h | h
        · subst h; simp at hr
        · rw [this.1, h]
      · exact hsrc.wid r hr
    -- what stands in the rows
    have hrow : ∀ (q : Nat) r, ((B.rows.drop i).take n ++ ys)[q]? = some r → (q < n ∧ B.rows[i + q]? = some r) ∨ (n ≤ q ∧ q - n < n' ∧ ys[q - n]? = some r) := fun q r hr => by
      have ht : ((B.rows.drop i).take n).length = n := by simp; omega
      rw [List.getElem?_append, ht] at hr
      split at hr
      · rename_i hq
        exact .inl ⟨hq, by simpa [List.getElem?_take, hq, List.getElem?_drop] using hr⟩
      · rename_i hq
        have hq2 : q - n < n' := by
          have := (List.getElem?_eq_some_iff.1 hr).1
          omega
        exact .inr ⟨by omega, hq2, hr⟩
    have hvnx : ∀ {x : Option Loc} {val : Value}, SlR (some x) 0 (n + n') val → VR (ρ.ext H.nx x) (.l H.nx 0 (n + n')) val := fun {x val} hs => by
      simp only [VR, Ren.ext, if_true]
      exact ⟨hs, fun e => absurd e (Nat.ne_of_gt hR.nx_pos)⟩
    have hstart : (execOp a.eval o).run P w = ((Builtin.append_ #[t, t'] o.type #[.slice ad n c, .slice ad' n' c']).run P w).andThen fun v w2 => .ok (.value v) w2 := by
      simp only [execOp, e, resolve, Sem.run_bind, Sem.run_pure, Result.andThen_ok, invoke, builtin, hargs]
    by_cases hroom : n + n' ≤ c
    · -- there is room
      have hrun : (Builtin.append_ #[t, t'] o.type #[.slice ad n c, .slice ad' n' c']).run P w =
          ((match ad with | some az => storeCells (az.add (n * k)) vs | none => (Pure.pure () : Sem Unit)).run P w).andThen fun _ w2 => .ok (.slice ad (n + n') c) w2 := by
        unfold Builtin.append_
        simp only [List.getElem?_toArray, List.getElem?_cons_zero, List.getElem?_cons_succ, Sem.run_bind, run_underlying hu, run_underlying hu', Result.andThen_ok, Builtin.lenOf, Sem.run_pure, run_sizeOf' hsz, Bool.false_eq_true, if_false, hroom, if_true, Bool.not_false, hfirst]
        cases ad with
        | none => simp
        | some az => simp only [Sem.run_bind]; cases (storeCells (az.add (n * k)) vs : Sem Unit).run P w <;> simp
      obtain ⟨xx, hx, hok⟩ := hR.blk id B hB
      simp only [VR] at hvz
      have hsl := hvz.1
      by_cases hc0 : c = 0
      · -- and none is wanted
        subst hc0
        have hnn : n = 0 := by omega
        have hnn' : n' = 0 := by omega
        subst hnn; subst hnn'
        have hyn : ys = [] := List.eq_nil_of_length_eq_zero hyl
        have hve : vs = [] := List.eq_nil_of_length_eq_zero (by rw [hvl]; simp)
        subst hve
        obtain ⟨q1, q2⟩ := hR.kill id (WP H pw)
        obtain ⟨q3, q4⟩ := q1.pushNone k (WP H pw)
        have hkn : (H.kill id).nx = H.nx := rfl
        rw [hkn] at q3 q4
        refine Eff.of_value (cv := .slice ad 0 0) (w' := w) ?_ h (hvnx (x := none) ⟨rfl, rfl, ad, rfl⟩) (by simpa [hyn] using q3) ?_
        · rw [hstart, hrun]; cases ad <;> simp [storeCells]
        · refine ⟨q4.ren, q4.nx, q4.size, q4.keep, fun j C m hj1 hj2 hj3 => ?_, fun j C hj1 hj2 => q2.ro j C (q4.ro j C (by simpa [hyn] using hj1) hj2) hj2, fun _ _ _ h => .inl h, q4.env⟩
          rcases q4.own j C m (by simpa [hyn] using hj1) hj2 hj3 with h | ⟨id0, l0, ⟨B0, hb1, hb2⟩, hwh, hl0, e0⟩
          · exact .inl h
          · rcases q2.own id0 B0 l0 hb1 hb2 hl0 with h | ⟨j1, m1, h1, h2, h3, h4⟩
            · exact .inl (by omega)
            · exact .inr ⟨j1, m1, h1, by rcases h2 with rfl | h2; exact hwh.imp (fun h => h) (fun h => ⟨h1, h.2⟩); exact .inr h2, h3, h4.trans e0⟩
      · cases xx with
        | none =>
          rw [hx] at hsl
          obtain ⟨_, _, az, e1⟩ := hsl
          simp only [Value.slice.injEq] at e1
          exact absurd e1.2.2 hc0
        | some l =>
          simp only at hok
          rw [hx] at hsl
          obtain ⟨az, e1, e2, e3, e4⟩ := hsl.some
          simp only [Value.slice.injEq] at e1
          obtain ⟨rfl, _, rfl⟩ := e1
          have had := e4 (by omega)
          subst had
          have hid0 : id ≠ 0 := fun e => by subst e; rw [hR.nil.2] at hx; cases hx
          have hBk : B.k = k := hk1.resolve_left hid0
          have hlk : l.k = k := hok.k.trans hBk
          have hpwid := hpw.resolve_left hid0
          have hfit : (i + n) * l.k + vs.length ≤ l.cap * l.k := by
            rw [hvl, ← hlk, ← Nat.add_mul]
            exact Nat.mul_le_mul_right _ (by omega)
          obtain ⟨c1, c2, c3, c4, c5⟩ := setCells_at hok ho ((i + n) * l.k) vs hfit
          obtain ⟨g1, g2⟩ := setCells_heap l.b vs (l.off + (i + n) * l.k) w
          have hst : (storeCells ⟨l.b, l.off + (i + n) * l.k, none⟩ vs 0).run P w = .ok () (w.setCells l.b (l.off + (i + n) * l.k + 0) vs) :=
            run_storeCells_cells (P := P) l.b (l.off + (i + n) * l.k) _ 0 w (fun q hq => by simpa using c1 q hq) (fun q hq => by simpa using c2 q hq) hv1
          rw [Nat.add_zero] at hst
          have hnew : BlkOk ρ (w.setCells l.b (l.off + (i + n) * l.k) vs) ⟨l.b, l.off + i * l.k, k, n + n', l.cap - i⟩ ⟨k, true, (B.rows.drop i).take n ++ ys⟩ := by
            refine ⟨rfl, hys.symm, hroom, hrowsk, ?_, ?_, by simp only; rw [g1]; exact hok.fit⟩
            · intro q r hr j y hy
              have hj : j < k := by
                have := (hrowsk r (List.mem_of_getElem? hr)).1
                have := (List.getElem?_eq_some_iff.1 hy).1
                omega
              simp only
              rcases hrow q r hr with ⟨hq, hr'⟩ | ⟨hq, hq2, hr'⟩
              · obtain ⟨cv, k1, k2⟩ := hok.cel (i + q) r hr' j y hy
                refine ⟨cv, ?_, k2⟩
                have hlt : (i + q) * l.k + j < (i + n) * l.k := by
                  have : (i + q + 1) * l.k ≤ (i + n) * l.k := Nat.mul_le_mul_right _ (by omega)
                  rw [Nat.add_mul] at this; omega
                have := c4 ((i + q) * l.k + j) (.inl hlt)
                rw [show l.off + i * l.k + q * k + j = l.off + ((i + q) * l.k + j) by rw [hlk, Nat.add_mul]; omega, this, ← Nat.add_assoc]
                exact k1
              · obtain ⟨cv, k1, k2⟩ := hvg (q - n) r hq2 hr' j y hy
                refine ⟨cv, ?_, k2⟩
                have hlt := (List.getElem?_eq_some_iff.1 k1).1
                have := c3 _ hlt
                have he : l.off + i * l.k + q * k + j = l.off + (i + n) * l.k + ((q - n) * k + j) := by
                  rw [hlk]
                  have : q * k = n * k + (q - n) * k := by rw [← Nat.add_mul]; congr 1; omega
                  rw [this, Nat.add_mul]; omega
                rw [he, this]
                rw [List.getElem?_eq_getElem hlt] at k1
                exact k1
            · intro _ q hq
              simp only at hq ⊢
              have := c5 (i * l.k + q) (by
                have : i * l.k + (l.cap - i) * k ≤ l.cap * l.k := by
                  rw [hlk, ← Nat.add_mul]
                  exact Nat.mul_le_mul_right _ (by omega)
                omega)
              rw [← Nat.add_assoc] at this
              exact this
          obtain ⟨q1, q2⟩ := hR.move (B' := ⟨k, true, (B.rows.drop i).take n ++ ys⟩) (l' := ⟨l.b, l.off + i * l.k, k, n + n', l.cap - i⟩) (W := WP H pw) hB hx ho rfl g1 g2 rfl hnew (setCells_env _ _ _ _) ⟨⟨B, hB, ho⟩, hpwid⟩
          refine Eff.of_value (cv := .slice (some ⟨l.b, l.off + i * l.k, none⟩) (n + n') (l.cap - i)) ?_ h (hvnx (x := some ⟨l.b, l.off + i * l.k, k, n + n', l.cap - i⟩) ⟨_, rfl, by simp, hroom, fun _ => by simp⟩) q1 q2
          rw [hstart, hrun]
          simp only [add_addr]
          rw [show l.off + i * l.k + n * k = l.off + (i + n) * l.k by rw [hlk, Nat.add_mul]; omega, hst]
          rfl
    · -- a new block
      have hneed : c < n + n' := by omega
      obtain ⟨w1, hw1⟩ : ∃ w1 : World, w1 = { w with drawn := w.drawn + 1 } := ⟨_, rfl⟩
      have hheap : w1.heap = w.heap := by rw [hw1]
      obtain ⟨newCap, hcap, hch⟩ : ∃ newCap, n + n' ≤ newCap ∧ (choose (.appendCap (n + n') c el)).run P w = .ok newCap w1 := by
        refine ⟨(Question.appendCap (n + n') c el).cut (w.tape w.drawn (.appendCap (n + n') c el)), ?_, ?_⟩
        · simp only [Question.cut]; omega
        · simp only [choose, Sem.run, Question.forced, Bool.false_eq_true, if_false, hw1]
      have hR1 : Rel ρ H w1 := hR.heap hheap
      obtain ⟨vs, hfirst, hvl, hv1, hvg⟩ := (hsrcs w1 hR1).cells n' (Nat.le_refl _)
      obtain ⟨us, hfirst0, hul, hu1, hug⟩ := first_cells (P := P) hR1 hv hB hin hk1' (m := n) (Nat.le_refl _)
      have hb3 : ¬ (Builtin.nextslicecap (n + n') c * by_ > 2 ^ 48) := by
        have h1 := Nat.mul_le_mul_right by_ (nextslicecap_le hneed)
        rw [Nat.mul_assoc] at h1
        omega
      have hb1 : ¬ (((n + n' : Nat) : Int) > IntKind.i64.max ∧ by_ = 0) := fun h => hby0 h.2
      have hrun : (Builtin.append_ #[t, t'] o.type #[.slice ad n c, .slice ad' n' c']).run P w =
          .ok (.slice (some ⟨w1.heap.size, 0, none⟩) (n + n') newCap) (w1.alloc (.cells (us.toArray ++ vs.toArray ++ Builtin.zeroCells z.cells (newCap - (n + n'))) el)) := by
        unfold Builtin.append_
        simp only [List.getElem?_toArray, List.getElem?_cons_zero, List.getElem?_cons_succ, Sem.run_bind, run_underlying hu, run_underlying hu', Result.andThen_ok, Builtin.lenOf, Sem.run_pure, run_sizeOf' hsz, Bool.false_eq_true, if_false, hroom, Bool.not_false, if_true,
          (hbytes w).1, (hbytes w).2, false_or, hb1, hb3, hch]
        simp only [(hbytes w1).1, run_askRoom, hfirst0, hfirst, run_zero hzz, Result.andThen_ok, newRow, Sem.run_bind, run_newObj, Sem.run_pure]
        rfl
      have hzl : (Builtin.zeroCells z.cells (newCap - (n + n'))).size = (newCap - (n + n')) * k := by simp [Builtin.zeroCells, hz]
      obtain ⟨q1, q2⟩ := hR1.kill id (WP H pw)
      have hkn : (H.kill id).nx = H.nx := rfl
      obtain ⟨q3, q4⟩ := q1.push (B := ⟨k, true, (B.rows.drop i).take n ++ ys⟩) (cells := us.toArray ++ vs.toArray ++ Builtin.zeroCells z.cells (newCap - (n + n'))) (elem := el) (cap := newCap) rfl hrowsk
        (by simp only; rw [hys]; exact hcap)
        (by
          simp only [Array.size_append, List.size_toArray, hzl, hul, hvl]
          rw [← Nat.add_mul, ← Nat.add_mul]
          exact Nat.mul_le_mul_right _ (by omega))
        (fun q r hr j y hy => by
          simp only at hr ⊢
          have hj : j < k := by
            have := (hrowsk r (List.mem_of_getElem? hr)).1
            have := (List.getElem?_eq_some_iff.1 hy).1
            omega
          have hget : ∀ p, p < us.length + vs.length → (us.toArray ++ vs.toArray ++ Builtin.zeroCells z.cells (newCap - (n + n')))[p]? = (us ++ vs)[p]? := fun p hp => by
            rw [Array.getElem?_append_left (by simpa using hp)]
            simp
          rcases hrow q r hr with ⟨hq, hr'⟩ | ⟨hq, hq2, hr'⟩
          · obtain ⟨cv, k1, k2⟩ := hug q r hq hr' j y hy
            have hlt := (List.getElem?_eq_some_iff.1 k1).1
            refine ⟨cv, ?_, k2⟩
            rw [hget _ (by omega), List.getElem?_append, if_pos hlt]
            exact k1
          · obtain ⟨cv, k1, k2⟩ := hvg (q - n) r hq2 hr' j y hy
            have hlt := (List.getElem?_eq_some_iff.1 k1).1
            refine ⟨cv, ?_, k2⟩
            have he : q * k + j = us.length + ((q - n) * k + j) := by
              rw [hul]
              have : q * k = n * k + (q - n) * k := by rw [← Nat.add_mul]; congr 1; omega
              omega
            rw [he, hget _ (by omega), List.getElem?_append, if_neg (by omega), Nat.add_sub_cancel_left]
            exact k1) (WP H pw)
      rw [hkn] at q3 q4
      simp only [hys] at q3 q4
      refine Eff.of_value (cv := .slice (some ⟨w1.heap.size, 0, none⟩) (n + n') newCap) (by rw [hstart, hrun]; rfl) h (hvnx (x := some ⟨w1.heap.size, 0, k, n + n', newCap⟩) ⟨_, rfl, by simp, hcap, fun _ => by simp⟩) q3 ?_
      refine Reach.heap (w0 := w1) ?_ hheap (by rw [hw1]; exact ⟨rfl, rfl, rfl⟩)
      refine ⟨q4.ren, q4.nx, q4.size, q4.keep, fun j C m hj1 hj2 hj3 => ?_, fun j C hj1 hj2 => q2.ro j C (q4.ro j C hj1 hj2) hj2, fun _ _ _ h => .inl h, q4.env⟩
      rcases q4.own j C m hj1 hj2 hj3 with h | ⟨id0, l0, ⟨B0, hb1, hb2⟩, hwh, hl0, e0⟩
      · exact .inl h
      · rcases q2.own id0 B0 l0 hb1 hb2 hl0 with h | ⟨j1, m1, h1, h2, h3, h4⟩
        · exact .inl (by omega)
        · exact .inr ⟨j1, m1, h1, by rcases h2 with rfl | h2; exact hwh.imp (fun h => h) (fun h => ⟨h1, h.2⟩); exact .inr h2, h3, h4.trans e0⟩
  split at h
  case h_3 => exact h.elim
  · rename_i id i n id' i' n' ex ey
    split at h
    case h_2 => exact h.elim
    rename_i B B' hB hB'
    obtain ⟨hk2, hk1, hin, hin', hbound, ho, hpw, h⟩ := h
    rw [ey] at hv'
    exact main id i n n' B _ ex hB (fun w' hR' => SrcOk.of_l hR' hv' hB' hin' hk2) hk1 hin hbound ho hpw h
  · rename_i id i n rows ex ey
    split at h
    case h_2 => exact h.elim
    rename_i B hB
    obtain ⟨hw, hk1, hin, hbound, ho, hpw, h⟩ := h
    rw [ey] at hv'
    exact main id i n _ B _ ex hB (fun w' hR' => SrcOk.of_q hR' hv' hw) hk1 hin hbound ho hpw h

/-! ### A slice written out -/
theorem zeros_get {z : Array Value} {N k : Nat} (hz : z.size = k) {q : Nat} (hq : q < N * k) : ∃ v, (((Array.range (N * k)).map (z[· % z.size]!)).toList)[q]? = some v := by
  exact ⟨_, by simp [hq]; rfl⟩

theorem fill_rows (hf : FrOk ρ fr a) (hs : a.tmps.size = nt) (h0 : ρ 0 = some none) {k : Nat} : ∀ (ps : List (Nat × Operand)) (qs : List Od) (i : Nat) (cells : Array Value) (done : List AV),
    rowsMatch nt i ps qs = true → (∀ x ∈ qs, (cellsOf (fr.ev x)).length = k ∧ (cellsOf (fr.ev x)).all AV.leaf = true) → done.length = i * k → cells.size = (i + qs.length) * k → VRs ρ done (cells.toList.take (i * k)) →
    ∃ cells', Instr.fill (fun i => some (i * k, k)) cells (ps.map fun (i, x) => (i, a.eval x)) = some cells' ∧ VRs ρ (done ++ (qs.map fun x => cellsOf (fr.ev x)).flatten) cells'.toList
  | [], [], i, cells, done, _, _, hd, hc, hv => by
    refine ⟨cells, by simp [Instr.fill], ?_⟩
    simp only [List.map_nil, List.flatten_nil, List.append_nil]
    rw [List.take_of_length_le (by simp at hc ⊢; omega)] at hv
    exact hv
  | [], _ :: _, _, _, _, h, _, _, _, _ => by simp [rowsMatch] at h
  | _ :: _, [], _, _, _, h, _, _, _, _ => by simp [rowsMatch] at h
  | (j, x) :: ps, y :: qs, i, cells, done, h, hok, hd, hc, hv => by
    simp only [rowsMatch, Bool.and_eq_true, beq_iff_eq] at h
    obtain ⟨⟨rfl, h2⟩, h3⟩ := h
    obtain ⟨hl, hleaf⟩ := hok y (by simp)
    have r := odOk.VR hf hs h0 h2
    have hcs := VR.cells hleaf r
    have hcl : (a.eval x).cells.toList.length = k := by rw [hcs.length, hl]
    have hcz : (a.eval x).cells.size = k := by rw [← hcl]; simp
    have hsz : i * k + k + qs.length * k = cells.size := by rw [hc, List.length_cons, Nat.add_mul, Nat.add_mul]; omega
    have hput : ((a.eval x).cells.zipIdx.foldl (fun cs (c, j) => cs.setIfInBounds (i * k + j) c) cells).toList = cells.toList.take (i * k) ++ (a.eval x).cells.toList ++ cells.toList.drop (i * k + (a.eval x).cells.toList.length) := by
      have := foldl_put (a.eval x).cells.toList (i * k) cells (by rw [hcl]; omega)
      simpa using this
    have hi1 : (i + 1) * k = i * k + k := by rw [Nat.add_mul]; omega
    obtain ⟨cells', h4, h5⟩ := fill_rows hf hs h0 ps qs (i + 1) _ (done ++ cellsOf (fr.ev y)) h3 (fun z hz => hok z (by simp [hz])) (by simp [hd, hl, hi1])
      (by
        rw [← Array.length_toList, hput]
        simp only [List.length_append, List.length_take, List.length_drop, hcl, Array.length_toList]
        rw [Nat.add_mul (i + 1), hi1]
        omega)
      (by
        rw [hput, hi1, List.take_append_of_le_length (by simp [hcz]; omega)]
        rw [List.take_of_length_le (by simp [hcz]; omega)]
        exact hv.append hcs)
    refine ⟨cells', ?_, ?_⟩
    · simp only [List.map_cons, Instr.fill, hcz, ne_eq, not_true_eq_false, false_or, decide_false, Bool.false_or]
      rw [if_neg (by simp; omega)]
      exact h4
    · simp only [List.map_cons, List.flatten_cons]
      rw [← List.append_assoc]; exact h5

theorem flatten_get {k : Nat} : ∀ (rows : List (List AV)), (∀ r ∈ rows, r.length = k) → ∀ (i : Nat) r, rows[i]? = some r → ∀ (j : Nat) v, r[j]? = some v → rows.flatten[i * k + j]? = some v
  | [], _, i, r, hr, _, _, _ => by simp at hr
  | r0 :: rows, h, i, r, hr, j, v, hv => by
    have hl := h r0 (by simp)
    cases i with
    | zero =>
      simp at hr; subst hr
      simp only [List.flatten_cons, Nat.zero_mul, Nat.zero_add]
      rw [List.getElem?_append, if_pos (List.getElem?_eq_some_iff.1 hv).1]
      exact hv
    | succ i =>
      have := flatten_get rows (fun r hr => h r (by simp [hr])) i r (by simpa using hr) j v hv
      simp only [List.flatten_cons]
      rw [List.getElem?_append, if_neg (by rw [hl, Nat.add_mul]; omega)]
      rw [show (i + 1) * k + j - r0.length = i * k + j by rw [hl, Nat.add_mul]; omega]
      exact this

theorem e_bsl (hf : FrOk ρ fr a) (hs : a.tmps.size = nt) (hR : Rel ρ H w) {k : Nat} {rows : List Od} (hc : checkOp P nt o.op (.bsl k rows) = true)
    (h : aop (env P) pw rd (.bsl k rows) fr H K) : Eff P (WP H pw) ρ H w a o K := by
  have h0 := hR.nil.2
  simp only [checkOp] at hc
  split at hc
  case h_2 => cases hc
  rename_i t n ps e
  simp only [Bool.and_eq_true, beq_iff_eq, decide_eq_true_eq] at hc
  obtain ⟨⟨⟨h1, h2⟩, h3⟩, h4⟩ := hc
  split at h1
  case h_2 => cases h1
  rename_i el hel
  simp only [Bool.and_eq_true, beq_iff_eq] at h1
  obtain ⟨hsz, hz⟩ := h1
  split at hz
  case h_2 => cases hz
  rename_i z hzz
  simp only [Bool.and_eq_true, beq_iff_eq, bne_iff_ne] at hz
  obtain ⟨hz, hk0⟩ := hz
  have hu := tyElem_spec hel
  simp only [aop] at h
  obtain ⟨hok, h⟩ := h
  obtain ⟨cells0, hcells0⟩ : ∃ c : Array Value, c = (Array.range (n * k)).map (z.cells[· % z.cells.size]!) := ⟨_, rfl⟩
  obtain ⟨cells, hfill, hvr⟩ := fill_rows hf hs h0 (k := k) ps.toList rows 0 cells0 [] h4 hok (by simp) (by rw [hcells0]; simp [h2]) (by simp [VRs])
  simp only [List.nil_append] at hvr
  have hflen : (rows.map fun x => cellsOf (fr.ev x)).flatten.length = rows.length * k := by
    rw [List.length_flatten]
    have : (rows.map fun x => cellsOf (fr.ev x)).map List.length = List.replicate rows.length k := by
      apply List.eq_replicate_iff.2
      refine ⟨by simp, fun b hb => ?_⟩
      simp only [List.map_map, List.mem_map] at hb
      obtain ⟨x, hx, rfl⟩ := hb
      exact (hok x hx).1
    rw [this]; simp
  have hclen : cells.size = rows.length * k := by
    have := hvr.length
    rw [hflen] at this
    simpa using this
  have hrun : (execOp a.eval o).run P w = .ok (.value (.slice (some ⟨w.heap.size, 0, none⟩) n n)) (w.alloc (.cells cells el)) := by
    simp only [execOp, e, Instr.buildSlice, Sem.run_bind, run_underlying hu, Result.andThen_ok, run_sizeOf' hsz]
    rw [if_neg (by omega)]
    by_cases hn : n * k = 0
    · have hm0 : ∀ f : Nat → Value, (Array.range 0).map f = #[] := fun f => by simp
      have hce : cells0 = #[] := by rw [hcells0, hn]; exact hm0 _
      rw [hce] at hfill
      simp only [hn, if_true, Sem.run_pure, Sem.run_bind, Result.andThen_ok, hm0, Array.toList_map, hfill, newRow, run_newObj]
      rfl
    · simp only [hn, if_false, Sem.run_bind, run_zero hzz, Result.andThen_ok, Sem.run_pure, Array.toList_map, ← hcells0, hfill, newRow, run_newObj]
      rfl
  obtain ⟨q1, q2⟩ := hR.push (B := ⟨k, true, rows.map fun x => cellsOf (fr.ev x)⟩) (cells := cells) (elem := el) (cap := n) rfl
    (fun r hr => by
      simp only [List.mem_map] at hr
      obtain ⟨x, hx, rfl⟩ := hr
      exact hok x hx) (by simp [h2]) (by rw [hclen, h2]; exact Nat.le_refl _)
    (fun i r hr j y hy => by
      have hq := flatten_get _ (fun r hr => by
        simp only [List.mem_map] at hr
        obtain ⟨x, hx, rfl⟩ := hr
        exact (hok x hx).1) i r hr j y hy
      obtain ⟨cv, k1, k2⟩ := hvr.get _ _ hq
      exact ⟨cv, by simpa using k1, k2⟩) (WP H pw)
  refine Eff.of_value hrun h ?_ q1 q2
  subst h2
  simp only [VR, Ren.ext, if_true]
  exact ⟨⟨some ⟨w.heap.size, 0, none⟩, by simp, by simp, by simp, fun _ => by simp⟩, fun e => absurd e (Nat.ne_of_gt hR.nx_pos)⟩

/-! ### All of them -/
theorem Eff.of_aop (hf : FrOk ρ fr a) (hs : a.tmps.size = nt) (hR : Rel ρ H w) {x : AOp} (hc : checkOp P nt o.op x = true)
    (h : aop (env P) pw rd x fr H K) : Eff P (WP H pw) ρ H w a o K := by
  by_cases hq : x.quiet = true
  · exact (Gives.of_quiet hf hs hR hq hc h).eff hR _
  · cases x <;> simp only [AOp.quiet, not_true_eq_false, Bool.false_eq_true, not_false_eq_true] at hq
    case stor => exact e_stor hf hs hR hc h
    case box => exact e_box hf hs hR hc h
    case aloc => exact e_aloc hR hc h
    case bsl => exact e_bsl hf hs hR hc h
    case mks => exact e_mks hf hs hR hc h
    case call => exact e_call hf hs hR hc h
    case callm => exact e_callm hf hs hR hc h
    case app => exact e_app hf hs hR hc h
    case apps => exact (show False from h).elim
    case cpy => exact e_cpy hf hs hR hc h
    case no => exact (show False from h).elim
end
end Go.Proofs.Ytamnlngihccgiaa.AM
