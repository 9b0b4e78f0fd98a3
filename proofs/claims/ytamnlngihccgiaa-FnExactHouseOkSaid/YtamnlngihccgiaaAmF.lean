/- The rest of the operations that leave the heap alone, second part: fields, addresses, slices, loads. -/
import Derived.Test.YtamnlngihccgiaaAmE
namespace Go.Proofs.Ytamnlngihccgiaa.AM
set_option linter.all false
open Go
section
variable {P : Program} {nt : Nat} {ρ : Ren} {fr : Fr} {a : Act} {H : AH} {w : World} {o : Oper} {K : AV → AH → Prop} {pw rd : Nat → Prop}

theorem tyField_spec {t : TypeId} {f off : Nat} {ft : TypeId} (h : tyField P t f = some (off, ft)) : ∃ fs : Array Field, P.underlying t = some (.struct fs) ∧ ∃ fd, fs[f]? = some fd ∧ fd.offset = off ∧ fd.type = ft := by
  unfold tyField at h
  split at h
  case h_2 => cases h
  rename_i fs hu
  simp only [Option.map_eq_some_iff, Prod.mk.injEq] at h
  obtain ⟨fd, h1, h2, h3⟩ := h
  exact ⟨fs, hu, fd, h1, h2, h3⟩

theorem g_fld (hf : FrOk ρ fr a) (hs : a.tmps.size = nt) (h0 : ρ 0 = some none) {off sz : Nat} {ag : Bool} {x : Od} (hc : checkOp P nt o.op (.fld off sz ag x) = true)
    (h : aop (env P) pw rd (.fld off sz ag x) fr H K) : Gives P rd ρ H w a o K := by
  simp only [checkOp] at hc
  split at hc
  case h_2 => cases hc
  rename_i t x' f e
  simp only [Bool.and_eq_true] at hc
  obtain ⟨h1, h2⟩ := hc
  have r2 := odOk.VR hf hs h0 h2
  split at h1
  case h_2 => cases h1
  rename_i off' ft htf
  simp only [Bool.and_eq_true, beq_iff_eq] at h1
  obtain ⟨⟨rfl, hsz⟩, hag⟩ := h1
  obtain ⟨fs, hu, fd, hfd, ho, hft⟩ := tyField_spec htf
  simp only [aop] at h
  split at h
  case h_2 => exact h.elim
  rename_i cs ec
  split at h
  case h_2 => exact h.elim
  rename_i v hv
  rw [ec] at r2; simp only [VR] at r2
  obtain ⟨vs, ev, hvs⟩ := r2
  have hlen := hvs.length
  unfold partv at hv
  split at hv
  case isFalse => cases hv
  rename_i hle
  cases ag with
  | true =>
    simp only [if_true, Option.some.injEq] at hv
    subst hv
    refine ⟨.agg ((vs.drop off').take sz).toArray, _, h, by simp only [VR]; exact ⟨_, rfl, (hvs.drop _).take _⟩, fun w' _ => ?_⟩
    simp only [execOp, e, Instr.field, Sem.run_bind, run_underlying hu, Result.andThen_ok, hfd, ev, asAgg, Sem.run_pure, part, hft, run_isAgg' hag, if_true, run_sizeOf' hsz, ho]
    simp [List.extract]
  | false =>
    simp only [Bool.false_eq_true, if_false] at hv
    obtain ⟨cv, hcv, hr⟩ := hvs.get _ _ hv
    refine ⟨cv, _, h, hr, fun w' _ => ?_⟩
    simp only [execOp, e, Instr.field, Sem.run_bind, run_underlying hu, Result.andThen_ok, hfd, ev, asAgg, Sem.run_pure, part, hft, run_isAgg' hag, Bool.false_eq_true, if_false, ho]
    simp [hcv]

theorem g_fad (hf : FrOk ρ fr a) (hs : a.tmps.size = nt) (h0 : ρ 0 = some none) {off : Nat} {x : Od} (hc : checkOp P nt o.op (.fad off x) = true)
    (h : aop (env P) pw rd (.fad off x) fr H K) : Gives P rd ρ H w a o K := by
  simp only [checkOp] at hc
  split at hc
  case h_2 => cases hc
  rename_i t x' f e
  simp only [Bool.and_eq_true] at hc
  obtain ⟨h1, h2⟩ := hc
  have r2 := odOk.VR hf hs h0 h2
  split at h1
  case h_2 => cases h1
  rename_i off' ft htf
  simp only [Bool.and_eq_true, beq_iff_eq] at h1
  obtain ⟨rfl, hsz⟩ := h1
  split at hsz
  case h_2 => cases hsz
  rename_i n hn
  simp only [bne_iff_ne] at hsz
  obtain ⟨fs, hu, fd, hfd, ho, hft⟩ := tyField_spec htf
  simp only [aop] at h
  split at h
  case h_3 => exact h.elim
  case h_2 =>
    rename_i r j ec
    rw [ec] at r2; simp only [VR] at r2
    obtain ⟨vs, b, oo, hvs, ev, hcon⟩ := r2
    refine ⟨.pointer (some ⟨b, oo + (j + off'), none⟩), _, h, by simp only [VR]; exact ⟨vs, b, oo, hvs, rfl, hcon⟩, fun w' _ => ?_⟩
    simp only [execOp, e, Instr.fieldAt, Sem.run_bind, run_underlying hu, Result.andThen_ok, hfd, ev, Instr.sureAddr, Sem.run_pure, fieldPlace, hft, run_sizeOf' hn, hsz, if_false, add_addr, ho, Nat.add_assoc]
  rename_i id i j ec
  rw [ec] at r2; simp only [VR] at r2
  obtain ⟨l, hl, ev⟩ := r2
  refine ⟨.pointer (some ⟨l.b, l.off + i * l.k + (j + off'), none⟩), _, h, by simp only [VR]; exact ⟨l, hl, rfl⟩, fun w' _ => ?_⟩
  simp only [execOp, e, Instr.fieldAt, Sem.run_bind, run_underlying hu, Result.andThen_ok, hfd, ev, Instr.sureAddr, Sem.run_pure, fieldPlace, hft, run_sizeOf' hn, hsz, if_false, add_addr, ho, Nat.add_assoc]

theorem g_load (hf : FrOk ρ fr a) (hs : a.tmps.size = nt) (hR : Rel ρ H w) {sz : Nat} {ag : Bool} {x : Od} (hc : checkOp P nt o.op (.load sz ag x) = true)
    (h : aop (env P) pw rd (.load sz ag x) fr H K) : Gives P rd ρ H w a o K := by
  have h0 := hR.nil.2
  simp only [checkOp] at hc
  split at hc
  case h_2 => cases hc
  rename_i t x' e
  simp only [Bool.and_eq_true, beq_iff_eq] at hc
  obtain ⟨⟨hsz, hag⟩, h2⟩ := hc
  have r2 := odOk.VR hf hs h0 h2
  simp only [aop] at h
  split at h
  case h_3 => exact h.elim
  case h_2 =>
    rename_i r j ec
    obtain ⟨hrd, h⟩ := h
    split at h
    case h_2 => exact h.elim
    rename_i v hv
    rw [ec] at r2; simp only [VR] at r2
    obtain ⟨vs, b, oo, hvs, ev, hcon⟩ := r2
    obtain ⟨cv, hcv, hld⟩ := load_all hvs hv hsz hag
    refine ⟨cv, v, h, hcv, fun w' hag' => ?_⟩
    have := hld b oo w' (fun i u hu => by
      rw [cell?_same (hag'.c hrd _ _ _ (hcon i u hu))]
      exact (hR.con _ _ _ (hcon i u hu)).1)
    simp only [execOp, e, Instr.loadAt, ev, Instr.sureAddr, Sem.run_bind, Sem.run_pure, Result.andThen_ok, this]
  rename_i id i j ec
  obtain ⟨hrd, h⟩ := h
  split at h
  case h_2 => exact h.elim
  rename_i v hv
  rw [ec] at r2; simp only [VR] at r2
  obtain ⟨l, hl, ev⟩ := r2
  rw [Option.bind_eq_some_iff] at hv
  obtain ⟨r, hr, hp⟩ := hv
  obtain ⟨B, hB, hBr, l', hl', hok⟩ := hR.row hr
  rw [hl] at hl'
  simp only [Option.some.injEq] at hl'
  subst hl'
  have hld : ∀ w', w'.heap[l.b]? = w.heap[l.b]? → ∃ cv, (loadVar t ⟨l.b, l.off + i * l.k + j, none⟩).run P w' = .ok cv w' ∧ VR ρ v cv := fun w' hw' => hok.loads hw' hBr hp hsz hag
  obtain ⟨cv, hcv, hvr⟩ := hld w rfl
  refine ⟨cv, v, h, hvr, fun w' hag' => ?_⟩
  have hw' := hag'.l id l hrd hl
  -- the same cells give the same value
  have hsame : (loadVar t ⟨l.b, l.off + i * l.k + j, none⟩).run P w' = .ok cv w' := by
    unfold partv at hp
    split at hp
    case isFalse => cases hp
    rename_i hle
    have hc : ∀ (jj : Nat), jj < r.length → ∃ cv, w.cell? ⟨l.b, l.off + i * l.k + jj, none⟩ = some cv := fun jj hjj => by
      obtain ⟨cv, h1, _⟩ := hok.cel i r hBr jj _ (List.getElem?_eq_getElem hjj)
      exact ⟨cv, h1⟩
    cases ag with
    | false =>
      simp only [Bool.false_eq_true, if_false] at hp
      obtain ⟨u, hu⟩ := hc j ((List.getElem?_eq_some_iff.1 hp).1)
      simp only [loadVar, Sem.run_bind, run_isAgg' hag, Result.andThen_ok, Bool.false_eq_true, if_false, run_load, hu] at hcv
      simp only [loadVar, Sem.run_bind, run_isAgg' hag, Result.andThen_ok, Bool.false_eq_true, if_false, run_load, cell?_same hw', hu]
      simp only [Result.ok.injEq, and_true] at hcv
      rw [hcv]
    | true =>
      have hrun : ∀ w', w'.heap[l.b]? = w.heap[l.b]? → (loadCells ⟨l.b, l.off + i * l.k + j, none⟩ sz).run P w' = .ok ((List.range sz).map fun jj => (w.cell? ⟨l.b, l.off + i * l.k + j + jj, none⟩).getD undef).toArray w' := fun w' hw' =>
        run_loadCells w' _ sz (fun jj => (w.cell? ⟨l.b, l.off + i * l.k + j + jj, none⟩).getD undef) fun jj hjj => by
          obtain ⟨u, hu⟩ := hc (j + jj) (by omega)
          rw [add_addr, cell?_same hw', Nat.add_assoc, hu]
          rfl
      simp only [loadVar, Sem.run_bind, run_isAgg' hag, Result.andThen_ok, if_true, run_sizeOf' hsz, hrun w rfl, Sem.run_pure] at hcv
      simp only [loadVar, Sem.run_bind, run_isAgg' hag, Result.andThen_ok, if_true, run_sizeOf' hsz, hrun w' hw', Sem.run_pure]
      simp only [Result.ok.injEq, and_true] at hcv
      rw [hcv]
  simp only [execOp, e, Instr.loadAt, ev, Instr.sureAddr, Sem.run_bind, Sem.run_pure, Result.andThen_ok, hsame]

theorem SlR.some {l : Loc} {i n : Nat} {v : Value} (h : SlR (some (some l)) i n v) : ∃ a, v = .slice a n (l.cap - i) ∧ i + n ≤ l.len ∧ l.len ≤ l.cap ∧ (i < l.cap → a = some ⟨l.b, l.off + i * l.k, none⟩) := h

theorem Rel.kOf (hR : Rel ρ H w) {id k : Nat} (h : (H.get id).map Blk.k = some k) {l : Loc} (hl : ρ id = some (some l)) : l.k = k := by
  simp only [AH.get, Option.map_eq_some_iff] at h
  obtain ⟨B, hB, hk⟩ := h
  obtain ⟨x, hx, hm⟩ := hR.blk id B hB
  rw [hl] at hx
  simp only [Option.some.injEq] at hx
  subst hx
  exact hm.k.trans hk

theorem g_iad (hf : FrOk ρ fr a) (hs : a.tmps.size = nt) (hR : Rel ρ H w) {k : Nat} {x y : Od} (hc : checkOp P nt o.op (.iad k x y) = true)
    (h : aop (env P) pw rd (.iad k x y) fr H K) : Gives P rd ρ H w a o K := by
  have h0 := hR.nil.2
  simp only [checkOp] at hc
  split at hc
  case h_2 => cases hc
  rename_i t x' y' e
  simp only [Bool.and_eq_true] at hc
  obtain ⟨⟨h1, h2⟩, h3⟩ := hc
  have r2 := odOk.VR hf hs h0 h2
  have r3 := odOk.VR hf hs h0 h3
  split at h1
  case h_2 => cases h1
  rename_i el hel
  simp only [beq_iff_eq] at h1
  unfold tyElem at hel
  split at hel
  case h_2 => cases hel
  rename_i el' hu
  simp only [Option.some.injEq] at hel
  subst hel
  simp only [aop] at h
  split at h
  case h_3 => exact h.elim
  case h_2 =>
    rename_i rows k2 v ex ey
    obtain ⟨hv0, h⟩ := h
    split at h
    case h_2 => exact h.elim
    rename_i r hr
    obtain ⟨hrk, h⟩ := h
    rw [ex] at r2; rw [ey] at r3
    simp only [VR] at r2 r3
    obtain ⟨vss, hvss, hq⟩ := r2
    obtain ⟨vs, hvs1, hvs2⟩ := hvss.get _ _ hr
    have hlt := (List.getElem?_eq_some_iff.1 hvs1).1
    rcases hq with ⟨rfl, _⟩ | ⟨b, off, k', cap, hne, ev, hcap, hcon⟩
    · simp at hlt
    obtain ⟨hlen, hcon⟩ := hcon _ _ hvs1
    have hkk : k' = k := by rw [← hlen, ← hrk]; exact hvs2.length
    subst hkk
    refine ⟨.pointer (some ⟨b, (off + v.toNat * k') + 0, none⟩), _, h, by simp only [VR]; exact ⟨vs, b, off + v.toNat * k', hvs2, rfl, hcon⟩, fun w' _ => ?_⟩
    have hvn : v < (vss.length : Int) := by omega
    simp only [execOp, e, Instr.indexAt, r3, asIntOf, Sem.run_bind, Sem.run_pure, run_underlying hu, Result.andThen_ok, ev]
    simp only [Sem.run_bind, Sem.run_pure, Result.andThen_ok, run_sizeOf' h1, hv0, hvn, and_self, if_true, add_addr]
    simp
  rename_i id i n k2 v ex ey
  obtain ⟨hk, hv0, hvn, h⟩ := h
  rw [ex] at r2; rw [ey] at r3
  simp only [VR] at r2 r3
  have rz := r2.2
  replace r2 := r2.1
  cases hl : ρ id with
  | none => rw [hl] at r2; exact r2.elim
  | some z =>
    rw [hl] at r2
    cases z with
    | none =>
      obtain ⟨_, rfl, _⟩ := r2
      omega
    | some l =>
      obtain ⟨ad, ev, hin, hlc, had⟩ := r2.some
      have hkk := hR.kOf hk hl
      have had' := had (by omega)
      subst had'
      refine ⟨.pointer (some ⟨l.b, l.off + (i + v.toNat) * l.k + 0, none⟩), _, h, by simp only [VR]; exact ⟨l, hl, rfl⟩, fun w' _ => ?_⟩
      simp only [execOp, e, Instr.indexAt, r3, asIntOf, Sem.run_bind, Sem.run_pure, run_underlying hu, Result.andThen_ok, ev]
      simp only [Sem.run_bind, Sem.run_pure, Result.andThen_ok, run_sizeOf' h1, hv0, hvn, and_self, if_true, add_addr]
      rw [hkk, Nat.add_mul]
      simp [Nat.add_assoc]

theorem bnd_run (hf : FrOk ρ fr a) (hs : a.tmps.size = nt) (h0 : ρ 0 = some none) {x : Option Operand} {y : Option Od} (h : odoOk nt x y = true) {d : Nat} {v : Int} (hb : bnd fr y d = some v)
    (top : Nat) (c : BoundsCode) (hv0 : 0 ≤ v) (hvt : v ≤ top) (w' : World) :
    (match x.map a.eval with | some u => Instr.sliceBound u top c | none => Pure.pure d : Sem Nat).run P w' = .ok v.toNat w' := by
  unfold odoOk at h
  split at h
  · simp only [bnd, Option.some.injEq] at hb
    subst hb
    simp
  · rename_i x y
    have r := odOk.VR hf hs h0 h
    simp only [bnd] at hb
    split at hb
    case h_2 => cases hb
    rename_i k u e
    simp only [Option.some.injEq] at hb
    subst hb
    rw [e] at r
    simp only [VR] at r
    simp only [Option.map_some, r, Instr.sliceBound, asIntOf, Sem.run_bind, Sem.run_pure, Result.andThen_ok, Sem.run_ite, hv0, hvt, and_self, if_true]
  · cases h

theorem g_sls (hf : FrOk ρ fr a) (hs : a.tmps.size = nt) (hR : Rel ρ H w) {k : Nat} {x : Od} {lo hi : Option Od} (hc : checkOp P nt o.op (.sls k x lo hi) = true)
    (h : aop (env P) pw rd (.sls k x lo hi) fr H K) : Gives P rd ρ H w a o K := by
  have h0 := hR.nil.2
  simp only [checkOp] at hc
  split at hc
  case h_2 => cases hc
  rename_i t x' lo' hi' e
  simp only [Bool.and_eq_true] at hc
  obtain ⟨⟨⟨h1, h2⟩, h3⟩, h4⟩ := hc
  have r2 := odOk.VR hf hs h0 h2
  split at h1
  case h_2 => cases h1
  rename_i el hel
  simp only [beq_iff_eq] at h1
  unfold tyElem at hel
  split at hel
  case h_2 => cases hel
  rename_i el' hu
  simp only [Option.some.injEq] at hel
  subst hel
  simp only [aop] at h
  -- whatever the slice is: its capacity is n at least
  have main : ∀ (n : Nat) (vl vh : Int) (hl0 : 0 ≤ vl) (hlh : vl ≤ vh) (hhn : vh ≤ n) (e1 : bnd fr lo 0 = some vl) (e2 : bnd fr hi n = some vh) (ad : Option Addr) (c : Nat), a.eval x' = .slice ad n c → n ≤ c → ∀ w', (execOp a.eval o).run P w' = .ok (.value (.slice (if c = vl.toNat then ad else ad.map (·.add (vl.toNat * k))) (vh.toNat - vl.toNat) (c - vl.toNat))) w' := fun n vl vh hl0 hlh hhn e1 e2 ad c ev hnc w' => by
    have hh : (match hi'.map a.eval with | some u => Instr.sliceBound u c .sliceAcap | none => Pure.pure n : Sem Nat).run P w' = .ok vh.toNat w' := bnd_run (P := P) hf hs h0 h4 e2 c _ (by omega) (by omega) w'
    have hlo : (match lo'.map a.eval with | some u => Instr.sliceBound u vh.toNat .sliceB | none => Pure.pure 0 : Sem Nat).run P w' = .ok vl.toNat w' := bnd_run (P := P) hf hs h0 h3 e1 vh.toNat _ (by omega) (by omega) w'
    have hbs : (Instr.sliceBounds true n c (lo'.map a.eval) (hi'.map a.eval) none).run P w' = .ok (vl.toNat, vh.toNat, c) w' := by
      revert hh hlo
      cases hi'.map a.eval <;> cases lo'.map a.eval <;> intro hh hlo <;> simp only [Sem.run_pure, Result.ok.injEq, and_true] at hh hlo <;>
        simp only [Instr.sliceBounds, Sem.run_bind, Sem.run_pure, Result.andThen_ok, if_true, Option.isSome_none, Bool.false_eq_true, if_false, hh, hlo]
    simp only [execOp, e, Instr.sliceAt, Sem.run_bind, run_underlying hu, Result.andThen_ok, Option.map_none]
    simp only [Instr.slice, Sem.run_bind, run_underlying hu, Result.andThen_ok, ev, hbs, run_sizeOf' h1, Sem.run_pure]
  split at h
  case h_3 => exact h.elim
  case h_2 =>
    rename_i rows ex
    split at h
    case h_2 => exact h.elim
    rename_i vl vh e1 e2
    obtain ⟨hl0, hlh, hhn, hk, h⟩ := h
    rw [ex] at r2
    simp only [VR] at r2
    obtain ⟨vss, hvss, hq⟩ := r2
    have hlen := hvss.length
    have hsub := (hvss.drop vl.toNat).take (vh.toNat - vl.toNat)
    rcases hq with ⟨rfl, ad, c, ev⟩ | ⟨b, off, k', cap, hne, ev, hcap, hcon⟩
    · simp only [List.length_nil] at hlen
      have hz1 : vl.toNat = 0 := by omega
      have hz2 : vh.toNat = 0 := by omega
      refine ⟨_, _, h, ?_, fun w' _ => main rows.length vl vh hl0 hlh hhn e1 e2 ad c (by rw [ev, ← hlen]) (by omega) w'⟩
      simp only [VR]
      exact ⟨_, hsub, .inl ⟨by simp, _, _, by rw [hz1, hz2]⟩⟩
    · refine ⟨_, _, h, ?_, fun w' _ => main rows.length vl vh hl0 hlh hhn e1 e2 _ cap (by rw [ev, ← hlen]) (by omega) w'⟩
      simp only [VR]
      refine ⟨_, hsub, ?_⟩
      have hsl : ((vss.drop vl.toNat).take (vh.toNat - vl.toNat)).length = vh.toNat - vl.toNat := by simp; omega
      by_cases hz : vh.toNat - vl.toNat = 0
      · exact .inl ⟨List.eq_nil_of_length_eq_zero (by rw [hsl]; exact hz), _, _, by rw [hz]⟩
      · refine .inr ⟨b, off + vl.toNat * k', k', cap - vl.toNat, ?_, ?_, by rw [hsl]; omega, ?_⟩
        · intro hn
          rw [hn] at hsl
          simp at hsl
          omega
        · rw [hsl]
          rw [if_neg (by omega)]
          simp only [Option.map_some, add_addr]
          rcases hk with hk | hk
          · have hz0 : vl.toNat = 0 := by omega
            rw [hz0]; simp
          · have hkk : k' = k := by
              have hlt : 0 < vss.length := by omega
              have h1 := (hcon 0 _ (List.getElem?_eq_getElem hlt)).1
              obtain ⟨r0, hr0⟩ : ∃ r, rows[0]? = some r := ⟨_, List.getElem?_eq_getElem (by omega)⟩
              obtain ⟨v0, hv0, hv1⟩ := hvss.get 0 r0 hr0
              rw [List.getElem?_eq_getElem hlt] at hv0
              simp only [Option.some.injEq] at hv0
              rw [hv0, hv1.length] at h1
              rw [← h1]
              exact hk r0 (List.mem_of_getElem? hr0)
            rw [hkk]
        · intro i r hr
          have hi : i < vh.toNat - vl.toNat := by
            have := (List.getElem?_eq_some_iff.1 hr).1
            omega
          have hr' : vss[vl.toNat + i]? = some r := by simpa [List.getElem?_take, hi, List.getElem?_drop] using hr
          obtain ⟨h1, h2⟩ := hcon _ _ hr'
          refine ⟨h1, fun j cv hj => ?_⟩
          rw [← h2 j cv hj]
          congr 1
          rw [Nat.add_mul]; omega
  rename_i id i n ex
  split at h
  case h_2 => exact h.elim
  rename_i vl vh e1 e2
  obtain ⟨hl0, hlh, hhn, hk, h⟩ := h
  rw [ex] at r2
  simp only [VR] at r2
  replace main := main n vl vh hl0 hlh hhn e1 e2
  have rz := r2.2
  replace r2 := r2.1
  cases hl : ρ id with
  | none => rw [hl] at r2; exact r2.elim
  | some z =>
    rw [hl] at r2
    cases z with
    | none =>
      obtain ⟨rfl, rfl, az, ev⟩ := r2
      have hz1 : vl.toNat = 0 := by omega
      have hz2 : vh.toNat = 0 := by omega
      refine ⟨.slice az 0 0, _, h, ?_, fun w' _ => ?_⟩
      · rw [hz1, hz2]; simp only [VR]; rw [hl]; exact ⟨⟨rfl, rfl, az, rfl⟩, fun e => by rw [← ev]; exact rz e⟩
      · rw [main az 0 ev (by omega) w', hz1, hz2]; rfl
    | some l =>
      obtain ⟨ad, ev, hin, hlc, had⟩ := r2.some
      refine ⟨_, _, h, ?_, fun w' _ => main ad (l.cap - i) ev (by omega) w'⟩
      simp only [VR]
      rw [hl]
      refine ⟨?_, fun e => absurd hl (by rw [e, h0]; simp)⟩
      refine ⟨_, by rw [Nat.sub_sub], by omega, hlc, fun hlt => ?_⟩
      rw [if_neg (by omega), had (by omega)]
      simp only [Option.map_some, add_addr]
      rcases hk with hk | hk
      · have hz : vl.toNat = 0 := by omega
        rw [hz]; simp
      · rw [hR.kOf hk hl, Nat.add_mul]; simp [Nat.add_assoc]
end
end Go.Proofs.Ytamnlngihccgiaa.AM
