/- The rest of the operations that leave the heap alone, third part: strings, literals, lengths, comparisons. -/
import Derived.Test.YtamnlngihccgiaaAmF
namespace Go.Proofs.Ytamnlngihccgiaa.AM
set_option linter.all false
open Go
section
variable {P : Program} {nt : Nat} {ρ : Ren} {fr : Fr} {a : Act} {H : AH} {w : World} {o : Oper} {K : AV → AH → Prop} {pw rd : Nat → Prop}

theorem tyStr_spec {t : TypeId} (h : tyStr P t = true) : P.underlying t = some .string := by
  unfold tyStr at h
  split at h
  · assumption
  · cases h
theorem tyElem_spec {t e : TypeId} (h : tyElem P t = some e) : P.underlying t = some (.slice e) := by
  unfold tyElem at h
  split at h
  · rename_i e' hu; simp only [Option.some.injEq] at h; subst h; exact hu
  · cases h
theorem tyInt_spec {t : TypeId} {k : IntKind} (h : tyInt P t = some k) : P.underlying t = some (.int k) := by
  unfold tyInt at h
  split at h
  · rename_i e' hu; simp only [Option.some.injEq] at h; subst h; exact hu
  · cases h
theorem tyStruct_spec {t : TypeId} (h : tyStruct P t = true) : ∃ fs, P.underlying t = some (.struct fs) := by
  unfold tyStruct at h
  split at h
  · rename_i fs hu; exact ⟨fs, hu⟩
  · cases h

theorem g_idx (hf : FrOk ρ fr a) (hs : a.tmps.size = nt) (h0 : ρ 0 = some none) {x y : Od} (hc : checkOp P nt o.op (.idx x y) = true)
    (h : aop (env P) pw rd (.idx x y) fr H K) : Gives P rd ρ H w a o K := by
  simp only [checkOp] at hc
  split at hc
  case h_2 => cases hc
  rename_i t x' y' e
  simp only [Bool.and_eq_true] at hc
  obtain ⟨⟨h1, h2⟩, h3⟩ := hc
  have hu := tyStr_spec h1
  have r2 := odOk.VR hf hs h0 h2
  have r3 := odOk.VR hf hs h0 h3
  simp only [aop] at h
  split at h
  case h_2 => exact h.elim
  rename_i s k v ex ey
  obtain ⟨hv0, hvn, h⟩ := h
  rw [ex] at r2; rw [ey] at r3
  simp only [VR] at r2 r3
  refine ⟨_, _, h, vr_n, fun w' _ => ?_⟩
  have hlt : v.toNat < s.size := by omega
  simp only [execOp, e, Instr.index, r3, r2, asIntOf, Sem.run_bind, Sem.run_pure, run_underlying hu, Result.andThen_ok, hv0, if_true]
  rw [getElem?_pos s v.toNat hlt, getElem!_pos s v.toNat hlt]
  rfl

theorem g_sst (hf : FrOk ρ fr a) (hs : a.tmps.size = nt) (h0 : ρ 0 = some none) {x : Od} {lo hi : Option Od} (hc : checkOp P nt o.op (.sst x lo hi) = true)
    (h : aop (env P) pw rd (.sst x lo hi) fr H K) : Gives P rd ρ H w a o K := by
  simp only [checkOp] at hc
  split at hc
  case h_2 => cases hc
  rename_i t x' lo' hi' e
  simp only [Bool.and_eq_true] at hc
  obtain ⟨⟨⟨h1, h2⟩, h3⟩, h4⟩ := hc
  have hu := tyStr_spec h1
  have r2 := odOk.VR hf hs h0 h2
  simp only [aop] at h
  split at h
  case h_2 => exact h.elim
  rename_i s ex
  split at h
  case h_2 => exact h.elim
  rename_i vl vh e1 e2
  obtain ⟨hl0, hlh, hhn, h⟩ := h
  rw [ex] at r2
  simp only [VR] at r2
  refine ⟨_, _, h, vr_s, fun w' _ => ?_⟩
  have hh : (match hi'.map a.eval with | some u => Instr.sliceBound u s.size .sliceAlen | none => Pure.pure s.size : Sem Nat).run P w' = .ok vh.toNat w' := bnd_run (P := P) hf hs h0 h4 e2 s.size _ (by omega) (by omega) w'
  have hlo : (match lo'.map a.eval with | some u => Instr.sliceBound u vh.toNat .sliceB | none => Pure.pure 0 : Sem Nat).run P w' = .ok vl.toNat w' := bnd_run (P := P) hf hs h0 h3 e1 vh.toNat _ (by omega) (by omega) w'
  have hbs : (Instr.sliceBounds false s.size s.size (lo'.map a.eval) (hi'.map a.eval) none).run P w' = .ok (vl.toNat, vh.toNat, s.size) w' := by
    revert hh hlo
    cases hi'.map a.eval <;> cases lo'.map a.eval <;> intro hh hlo <;> simp only [Sem.run_pure, Result.ok.injEq, and_true] at hh hlo <;>
      simp only [Instr.sliceBounds, Sem.run_bind, Sem.run_pure, Result.andThen_ok, Option.isSome_none, Bool.false_eq_true, if_false, hh, hlo]
  simp only [execOp, e, Instr.sliceAt, Sem.run_bind, run_underlying hu, Result.andThen_ok, Option.map_none]
  simp only [Instr.slice, Sem.run_bind, run_underlying hu, Result.andThen_ok, r2, Option.isSome_none, Bool.false_eq_true, if_false, hbs, Sem.run_pure]

theorem g_len (hf : FrOk ρ fr a) (hs : a.tmps.size = nt) (h0 : ρ 0 = some none) {str : Bool} {x : Od} (hc : checkOp P nt o.op (.len str x) = true)
    (h : aop (env P) pw rd (.len str x) fr H K) : Gives P rd ρ H w a o K := by
  simp only [checkOp] at hc
  split at hc
  case h_2 => cases hc
  rename_i args' ts e
  simp only [Bool.and_eq_true] at hc
  obtain ⟨h1, h2⟩ := hc
  have r := odsOk.VRs hf hs h0 h1
  split at h2
  case h_2 => cases h2
  rename_i t hts
  have hts' : ts = #[t] := by cases ts; simp at hts; simp [hts]
  subst hts'
  simp only [List.map_cons, List.map_nil, VRs] at r
  obtain ⟨u, _, ea, hv, rfl⟩ := r
  have hargs : args'.map a.eval = #[u] := by
    apply Array.toList_inj.1
    rw [Array.toList_map]; exact ea
  simp only [aop] at h
  split at h
  · rename_i id i n ex
    obtain ⟨rfl, h⟩ := h
    simp only [Bool.false_eq_true, if_false] at h2
    obtain ⟨el, hel⟩ := Option.isSome_iff_exists.1 h2
    have hu := tyElem_spec hel
    rw [ex] at hv
    simp only [VR] at hv
    replace hv := hv.1
    have hsl : ∃ ad c, u = .slice ad n c := by
      unfold SlR at hv
      split at hv
      · exact hv.elim
      · obtain ⟨_, rfl, az, rfl⟩ := hv; exact ⟨_, _, rfl⟩
      · obtain ⟨ad, rfl, _⟩ := hv; exact ⟨_, _, rfl⟩
    obtain ⟨ad, c, rfl⟩ := hsl
    refine ⟨_, _, h, vr_n, fun w' _ => ?_⟩
    simp only [execOp, e, resolve, Sem.run_bind, Sem.run_pure, Result.andThen_ok, invoke, builtin, hargs, Builtin.len_]
    simp [run_underlying hu, goInt]
  · rename_i rows ex
    obtain ⟨rfl, h⟩ := h
    simp only [Bool.false_eq_true, if_false] at h2
    obtain ⟨el, hel⟩ := Option.isSome_iff_exists.1 h2
    have hu := tyElem_spec hel
    rw [ex] at hv
    simp only [VR] at hv
    obtain ⟨vss, hvss, hq⟩ := hv
    have hlen := hvss.length
    have hsl : ∃ ad c, u = .slice ad rows.length c := by
      rcases hq with ⟨rfl, ad, c, ev⟩ | ⟨b, off, k', cap, hne, ev, _⟩
      · simp only [List.length_nil] at hlen
        exact ⟨ad, c, by rw [ev, ← hlen]⟩
      · exact ⟨_, cap, by rw [ev, ← hlen]⟩
    obtain ⟨ad, c, rfl⟩ := hsl
    refine ⟨_, _, h, vr_n, fun w' _ => ?_⟩
    simp only [execOp, e, resolve, Sem.run_bind, Sem.run_pure, Result.andThen_ok, invoke, builtin, hargs, Builtin.len_]
    simp [run_underlying hu, goInt]
  · rename_i s ex
    obtain ⟨rfl, h⟩ := h
    simp only [if_true] at h2
    have hu := tyStr_spec h2
    rw [ex] at hv
    simp only [VR] at hv
    subst hv
    refine ⟨_, _, h, vr_n, fun w' _ => ?_⟩
    simp only [execOp, e, resolve, Sem.run_bind, Sem.run_pure, Result.andThen_ok, invoke, builtin, hargs, Builtin.len_]
    simp [run_underlying hu, goInt]
  · exact h.elim

theorem mm_run (mx : Bool) (k : IntKind) : ∀ (xs : List AV) (vs : List Value) (x : Int) (v : AV), VRs ρ xs vs → mmv2 mx k x xs = some v → ∃ y, v = .n k y ∧
    ∀ w', (vs.foldlM (if mx then Builtin.max2 else Builtin.min2) (.int k x)).run P w' = .ok (.int k y) w'
  | [], vs, x, v, hv, h => by
    simp only [VRs] at hv
    subst hv
    simp only [mmv2, Option.some.injEq] at h
    exact ⟨x, h.symm, fun w' => by simp⟩
  | .n k' y :: xs, vs, x, v, hv, h => by
    simp only [VRs, VR] at hv
    obtain ⟨_, r, rfl, rfl, hr⟩ := hv
    simp only [mmv2] at h
    split at h
    case isFalse => cases h
    rename_i hk
    subst hk
    obtain ⟨z, hz, hrun⟩ := mm_run mx k xs r _ v hr h
    refine ⟨z, hz, fun w' => ?_⟩
    simp only [List.foldlM_cons, Sem.run_bind]
    have h2 : ((if mx then Builtin.max2 else Builtin.min2) (.int k x) (.int k y)).run P w' = .ok (.int k (if mx then (if y > x then y else x) else (if y < x then y else x))) w' := by
      cases mx <;> simp [Builtin.max2, Builtin.min2]
    rw [h2]
    simp only [Result.andThen_ok]
    exact hrun w'
  | .b _ :: _, _, _, _, _, h => by simp [mmv2] at h
  | .s _ :: _, _, _, _, _, h => by simp [mmv2] at h
  | .pn :: _, _, _, _, _, h => by simp [mmv2] at h
  | .p .. :: _, _, _, _, _, h => by simp [mmv2] at h
  | .l .. :: _, _, _, _, _, h => by simp [mmv2] at h
  | .q _ :: _, _, _, _, _, h => by simp [mmv2] at h
  | .pq .. :: _, _, _, _, _, h => by simp [mmv2] at h
  | .a _ :: _, _, _, _, _, h => by simp [mmv2] at h
  | .t _ :: _, _, _, _, _, h => by simp [mmv2] at h
  | .f .. :: _, _, _, _, _, h => by simp [mmv2] at h
  | .en :: _, _, _, _, _, h => by simp [mmv2] at h
  | .e .. :: _, _, _, _, _, h => by simp [mmv2] at h
  | .u :: _, _, _, _, _, h => by simp [mmv2] at h

theorem g_mm (hf : FrOk ρ fr a) (hs : a.tmps.size = nt) (h0 : ρ 0 = some none) {mx : Bool} {xs : List Od} (hc : checkOp P nt o.op (.mm mx xs) = true)
    (h : aop (env P) pw rd (.mm mx xs) fr H K) : Gives P rd ρ H w a o K := by
  simp only [checkOp] at hc
  split at hc
  case h_2 => cases hc
  rename_i b args' ts e
  simp only [Bool.and_eq_true, beq_iff_eq] at hc
  obtain ⟨rfl, h1⟩ := hc
  have r := odsOk.VRs hf hs h0 h1
  simp only [aop] at h
  split at h
  case h_2 => exact h.elim
  rename_i v hv
  unfold mmv at hv
  split at hv
  case h_2 => cases hv
  rename_i k x rest ex
  rw [ex] at r
  simp only [VRs, VR] at r
  obtain ⟨_, vs, ea, rfl, hvs⟩ := r
  have hargs : (args'.map a.eval).toList = .int k x :: vs := by rw [Array.toList_map]; exact ea
  obtain ⟨y, rfl, hrun⟩ := mm_run (P := P) mx k rest vs x v hvs hv
  refine ⟨_, _, h, vr_n, fun w' _ => ?_⟩
  have hr := hrun w'
  cases mx
  · simp only [Bool.false_eq_true, if_false] at e hr
    simp only [execOp, e, resolve, Sem.run_bind, Sem.run_pure, Result.andThen_ok, invoke, builtin, Builtin.min_, hargs, hr]
  · simp only [if_true] at e hr
    simp only [execOp, e, resolve, Sem.run_bind, Sem.run_pure, Result.andThen_ok, invoke, builtin, Builtin.max_, hargs, hr]
end
end Go.Proofs.Ytamnlngihccgiaa.AM
