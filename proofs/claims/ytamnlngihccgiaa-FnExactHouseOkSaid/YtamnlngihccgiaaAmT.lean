/- Rules of a walk through an abstract text. -/
import Derived.Test.YtamnlngihccgiaaAmS
namespace Go.Proofs.Ytamnlngihccgiaa.AM
set_option linter.all false
open Go

section
variable {P : Program} {fr : Fr} {H : AH} {Q : Ex → Fr → AH → Prop}

mutual
theorem aplan_mono {Wd : List Nat} {Hs : AH} {ops : List AO} : ∀ (p : Plan) (gd fr : Fr) (H : AH) (K K' : Fr → AH → Prop), (∀ fr' H', K fr' H' → K' fr' H') → aplan (env P) Wd Hs ops p gd fr H K → aplan (env P) Wd Hs ops p gd fr H K'
  | .done, gd, fr, H, K, K', hk, h => by simp only [aplan] at h ⊢; exact hk _ _ h
  | .take i p, gd, fr, H, K, K', hk, h => by
    simp only [aplan] at h ⊢
    split at h
    · rcases h with h | h
      · exact .inl (agg_mono (fun v hh => aplan_mono p _ _ H K K' hk hh) h)
      · exact .inr (ago_mono (fun fr' H' hh => aplan_mono p _ fr' H' K K' hk hh) h)
    · exact h.elim
  | .all ps, gd, fr, H, K, K', hk, h => by
    simp only [aplan] at h ⊢
    exact aplans_mono ps gd fr H K K' hk h
theorem aplans_mono {Wd : List Nat} {Hs : AH} {ops : List AO} : ∀ (ps : List (Nat × Plan)) (gd fr : Fr) (H : AH) (K K' : Fr → AH → Prop), (∀ fr' H', K fr' H' → K' fr' H') → aplans (env P) Wd Hs ops ps gd fr H K → aplans (env P) Wd Hs ops ps gd fr H K'
  | [], _, _, _, _, _, _, _ => by simp only [aplans]
  | (i, p) :: r, gd, fr, H, K, K', hk, h => by
    simp only [aplans] at h ⊢
    refine ⟨?_, aplans_mono r gd fr H K K' hk h.2⟩
    have h := h.1
    split at h
    · exact ago_mono (fun fr' H' hh => aplan_mono p _ fr' H' K K' hk hh) h
    · exact h.elim
end

theorem exThen_mono {n n' : Fr → AH → Prop} {Q Q' : Ex → Fr → AH → Prop} (hn : ∀ fr H, n fr H → n' fr H) (hq : ∀ e fr H, Q e fr H → Q' e fr H) : ∀ e fr H, exThen n Q e fr H → exThen n' Q' e fr H
  | .normal, fr, H, h => hn fr H h
  | .exit _, fr, H, h => hq _ fr H h
  | .ret, fr, H, h => hq _ fr H h

theorem awp_mono : ∀ (x : ACode) (fr : Fr) (H : AH) (Q Q' : Ex → Fr → AH → Prop), (∀ e fr H, Q e fr H → Q' e fr H) → awp (env P) x fr H Q → awp (env P) x fr H Q'
  | .skip, fr, H, Q, Q', hq, h => by simp only [awp] at h ⊢; exact hq _ _ _ h
  | .reg xs, fr, H, Q, Q', hq, h => by simp only [awp] at h ⊢; exact aops_mono (hq _) h
  | .dreg p xs, fr, H, Q, Q', hq, h => by simp only [awp] at h ⊢; obtain ⟨Wd, h⟩ := h; exact ⟨Wd, aplan_mono p _ _ _ _ _ (hq _) h⟩
  | .seq x y, fr, H, Q, Q', hq, h => by
    simp only [awp] at h ⊢
    exact awp_mono x fr H _ _ (exThen_mono (fun fr H hh => awp_mono y fr H Q Q' hq hh) hq) h
  | .cond c x y, fr, H, Q, Q', hq, h => by
    simp only [awp] at h ⊢
    split at h
    · exact ⟨fun e => awp_mono x fr H Q Q' hq (h.1 e), fun e => awp_mono y fr H Q Q' hq (h.2 e)⟩
    · exact h.elim
  | .block id x, fr, H, Q, Q', hq, h => by
    simp only [awp] at h ⊢
    refine awp_mono x fr H _ _ (fun e fr H hh => ?_) h
    cases e with
    | normal => exact hq _ _ _ hh
    | exit i =>
      simp only [exBlock] at hh ⊢
      split at hh <;> rename_i hi
      · rw [if_pos hi]; exact hq _ _ _ hh
      · rw [if_neg hi]; exact hq _ _ _ hh
    | ret => exact hq _ _ _ hh
  | .loop x, fr, H, Q, Q', hq, h => by
    simp only [awp] at h ⊢
    obtain ⟨I, n, h0, hr⟩ := h
    exact ⟨I, n, h0, fun n fr H hI => awp_mono x fr H _ _ (exThen_mono (fun _ _ h => h) hq) (hr n fr H hI)⟩
  | .fz x, fr, H, Q, Q', hq, h => by
    simp only [awp] at h ⊢
    obtain ⟨S, fr', H', hz, h⟩ := h
    exact ⟨S, fr', H', hz, awp_mono x fr' H' Q Q' hq h⟩
  | .exit _, fr, H, Q, Q', hq, h => by simp only [awp] at h ⊢; exact hq _ _ _ h
  | .ret, fr, H, Q, Q', hq, h => by simp only [awp] at h ⊢; exact hq _ _ _ h
  | .bad, _, _, _, _, _, h => by simp only [awp] at h

/-! ### The rules: what follows stands behind a variable -/
theorem w_reg {is : List AI} {y : ACode} (hok : AI.oks is = true) (h : ∀ K : Fr → AH → Prop, (∀ fr' H', awp (env P) y fr' H' Q → K fr' H') → aitems (env P) is fr H K) :
    awp (env P) (.seq (.reg (AI.flats none is)) y) fr H Q := by
  simp only [awp]
  exact flats_run is none fr H _ trivial hok (h _ fun _ _ h => h)
theorem w_regE {is : List AI} (hok : AI.oks is = true) (h : ∀ K : Fr → AH → Prop, (∀ fr' H', Q .normal fr' H' → K fr' H') → aitems (env P) is fr H K) :
    awp (env P) (.reg (AI.flats none is)) fr H Q := by
  simp only [awp]
  exact flats_run is none fr H _ trivial hok (h _ fun _ _ h => h)
theorem w_dline {is : List AI} {n : Nat} {y : ACode} (hok : (AI.oks is && (AI.flats none is).all (fun x => x.o.quiet) && (AI.flats none is).length == n) = true)
    (h : ∀ K : Fr → AH → Prop, (∀ fr' H', awp (env P) y fr' H' Q → K fr' H') → aitems (env P) is fr H K) : awp (env P) (.seq (.dreg (Plan.line 0 n) (AI.flats none is)) y) fr H Q := by
  have := awp_dline (P := P) (Q := exThen (fun fr' H' => awp (env P) y fr' H' Q) Q) hok (h _ fun _ _ h => h)
  simpa only [awp] using this
theorem w_dlineE {is : List AI} {n : Nat} (hok : (AI.oks is && (AI.flats none is).all (fun x => x.o.quiet) && (AI.flats none is).length == n) = true)
    (h : ∀ K : Fr → AH → Prop, (∀ fr' H', Q .normal fr' H' → K fr' H') → aitems (env P) is fr H K) : awp (env P) (.dreg (Plan.line 0 n) (AI.flats none is)) fr H Q :=
  awp_dline hok (h _ fun _ _ h => h)
theorem w_dlin {is : List AI} {m n : Nat} {y : ACode} (hok : (AI.oks is && ((AI.flats none is).take m).all (fun x => x.o.quiet) && ((AI.flats none is).drop m).all (fun x => x.o.still) && (AI.flats none is).length == m + n) = true)
    (h : ∀ K : Fr → AH → Prop, (∀ fr' H', awp (env P) y fr' H' Q → K fr' H') → aitems (env P) is fr H K) : awp (env P) (.seq (.dreg (Plan.lin 0 m n) (AI.flats none is)) y) fr H Q := by
  have := awp_dlin (P := P) (Q := exThen (fun fr' H' => awp (env P) y fr' H' Q) Q) hok (h _ fun _ _ h => h)
  simpa only [awp] using this
theorem w_dlinE {is : List AI} {m n : Nat} (hok : (AI.oks is && ((AI.flats none is).take m).all (fun x => x.o.quiet) && ((AI.flats none is).drop m).all (fun x => x.o.still) && (AI.flats none is).length == m + n) = true)
    (h : ∀ K : Fr → AH → Prop, (∀ fr' H', Q .normal fr' H' → K fr' H') → aitems (env P) is fr H K) : awp (env P) (.dreg (Plan.lin 0 m n) (AI.flats none is)) fr H Q :=
  awp_dlin hok (h _ fun _ _ h => h)
theorem exThen_exThen (n n' : Fr → AH → Prop) : exThen n (exThen n' Q) = exThen n Q := by
  funext e fr H
  cases e <;> rfl
theorem w_assoc {x y z : ACode} (h : awp (env P) (.seq x (.seq y z)) fr H Q) : awp (env P) (.seq (.seq x y) z) fr H Q := by
  simp only [awp] at h ⊢
  rw [exThen_exThen]; exact h
theorem w_skip {y : ACode} (h : awp (env P) y fr H Q) : awp (env P) (.seq .skip y) fr H Q := by simpa only [awp, exThen] using h
theorem w_ret {y : ACode} (h : Q .ret fr H) : awp (env P) (.seq .ret y) fr H Q := by simpa only [awp, exThen] using h
theorem w_exit {i : Nat} {y : ACode} (h : Q (.exit i) fr H) : awp (env P) (.seq (.exit i) y) fr H Q := by simpa only [awp, exThen] using h
theorem w_retE (h : Q .ret fr H) : awp (env P) .ret fr H Q := by simpa only [awp] using h
theorem w_skipE (h : Q .normal fr H) : awp (env P) .skip fr H Q := by simpa only [awp] using h
theorem w_exitE {i : Nat} (h : Q (.exit i) fr H) : awp (env P) (.exit i) fr H Q := by simpa only [awp] using h
/-- A choice: what follows is walked on both ways. -/
theorem w_cond {c : Od} {x y z : ACode} {b : Bool} (hc : fr.ev c = .b b) (h1 : b = true → awp (env P) (.seq x z) fr H Q) (h2 : b = false → awp (env P) (.seq y z) fr H Q) :
    awp (env P) (.seq (.cond c x y) z) fr H Q := by
  simp only [awp] at h1 h2 ⊢
  rw [hc]
  exact ⟨h1, h2⟩
theorem w_condE {c : Od} {x y : ACode} {b : Bool} (hc : fr.ev c = .b b) (h1 : b = true → awp (env P) x fr H Q) (h2 : b = false → awp (env P) y fr H Q) :
    awp (env P) (.cond c x y) fr H Q := by
  simp only [awp]
  rw [hc]
  exact ⟨h1, h2⟩
/-- What follows is walked once, from J on. -/
theorem w_cut {x y : ACode} (J : Fr → AH → Prop) (h1 : awp (env P) x fr H (exThen J Q)) (h2 : ∀ fr' H', J fr' H' → awp (env P) y fr' H' Q) : awp (env P) (.seq x y) fr H Q := by
  simp only [awp]
  exact awp_mono x fr H _ _ (exThen_mono h2 fun _ _ _ h => h) h1
theorem w_block {i : Nat} {x : ACode} (h : awp (env P) x fr H (exBlock i Q)) : awp (env P) (.block i x) fr H Q := by simpa only [awp] using h
theorem w_blockS {i : Nat} {x y : ACode} (h : awp (env P) x fr H (exBlock i (exThen (fun fr' H' => awp (env P) y fr' H' Q) Q))) : awp (env P) (.seq (.block i x) y) fr H Q := by simpa only [awp] using h
theorem w_loop {x : ACode} (I : Nat → Fr → AH → Prop) (n : Nat) (h0 : I n fr H) (hr : ∀ n fr H, I n fr H → awp (env P) x fr H (exThen (fun fr' H' => ∃ n', n' < n ∧ I n' fr' H') Q)) :
    awp (env P) (.loop x) fr H Q := by
  simp only [awp]
  exact ⟨I, n, h0, hr⟩

/-! ### Frames -/
theorem get_set {d t : Nat} {v : AV} : (fr.set d v).get t = if t = d then v else fr.get t := of_eq_true (eq_self _)
theorem get_mix {ds : List Nat} {vs : Fr} {t : Nat} : (fr.mix ds vs).get t = if t ∈ ds then vs t else fr.get t := of_eq_true (eq_self _)
theorem get_ofList {vs : List AV} {t : Nat} : (Fr.ofList vs).get t = vs.getD t (.t []) := of_eq_true (eq_self _)
theorem ev_t {t : Nat} : fr.ev (.t t) = fr.get t := of_eq_true (eq_self _)
theorem ev_c {v : AV} : fr.ev (.c v) = v := of_eq_true (eq_self _)
theorem setO_some {d : Nat} {v : AV} : fr.setO (some d) v = fr.set d v := of_eq_true (eq_self _)
theorem setO_none {v : AV} : fr.setO none v = fr := of_eq_true (eq_self _)
theorem brv_and {c r : Bool} : (if c = true then r else !true) = (c && r) := by cases c <;> rfl
theorem brv_or {c r : Bool} : (if c = false then r else !false) = (c || r) := by cases c <;> rfl

theorem wrap64 {x : Int} (h1 : -9223372036854775808 ≤ x) (h2 : x < 9223372036854775808) : IntKind.i64.wrap x = x := by
  simp [IntKind.wrap, IntKind.bits, IntKind.signed, IntKind.max]; omega

/-! ### Heaps -/
theorem get_push_same {B : Blk} : (H.push B).get H.nx = some B := by simp [AH.get, AH.push]
theorem get_push_ne {B : Blk} {id : Nat} (h : id ≠ H.nx) : (H.push B).get id = H.get id := by simp [AH.get, AH.push, h]
theorem nx_push {B : Blk} : (H.push B).nx = H.nx + 1 := of_eq_true (eq_self _)
theorem nx_put {B : Blk} {id : Nat} : (H.put id B).nx = H.nx := of_eq_true (eq_self _)
theorem nx_kill {id : Nat} : (H.kill id).nx = H.nx := of_eq_true (eq_self _)
theorem get_put {B : Blk} {id j : Nat} : (H.put id B).get j = if j = id ∧ id < H.nx then some B else H.get j := of_eq_true (eq_self _)
theorem get_kill {id j : Nat} : (H.kill id).get j = if j = id ∧ id ≠ 0 then none else H.get j := of_eq_true (eq_self _)
theorem old_refl : H.Old H := ⟨Nat.le_refl _, fun _ _ => rfl⟩
theorem old_push {H' : AH} {B : Blk} (h : H.Old H') : H.Old (H'.push B) := ⟨Nat.le_succ_of_le h.1, fun j hj => by
  have h1 := h.1
  simp only [AH.push]; rw [if_neg (by omega)]; exact h.2 j hj⟩
theorem old_put {H' : AH} {B : Blk} {id : Nat} (h : H.Old H') (hid : H.nx ≤ id) : H.Old (H'.put id B) := ⟨h.1, fun j hj => by
  simp only [AH.put]; rw [if_neg (by omega)]; exact h.2 j hj⟩
theorem old_kill {H' : AH} {id : Nat} (h : H.Old H') (hid : H.nx ≤ id) : H.Old (H'.kill id) := ⟨h.1, fun j hj => by
  simp only [AH.kill]; rw [if_neg (by omega)]; exact h.2 j hj⟩

/-- A pure call, in a walk. -/
theorem w_call {f : Od} {as : List Od} {K : AV → AH → Prop} {g : FuncId} {cap : List AV} {d : AV} {pw rd : Nat → Prop} (hp : Pf P g (as.map fr.ev ++ cap) d) (hf : fr.ev f = .f g cap) (h : K d H) :
    aop (env P) pw rd (.call f as) fr H K := call_pf hf hp h
end
end Go.Proofs.Ytamnlngihccgiaa.AM
