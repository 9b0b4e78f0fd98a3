/- Regions in the form in which they were written: '&&' and '||' as trees. -/
import Derived.Test.YtamnlngihccgiaaAmR
namespace Go.Proofs.Ytamnlngihccgiaa.AM
set_option linter.all false
open Go

section
variable {P : Program}

theorem env_mono {f : FuncId} {args : List AV} {H : AH} {R R' : AV → AH → Prop} (h : (env P).ct f args H R) (hr : ∀ r H', R r H' → R' r H') : (env P).ct f args H R' := ⟨h.1, h.2.mono hr⟩

theorem abin_mono {op : BinOp} {x y : AV} {K K' : AV → Prop} (hk : ∀ v, K v → K' v) (h : abin op x y K) : abin op x y K' := by
  unfold abin at h ⊢
  split at h
  · cases op <;> simp only at h ⊢ <;> first | exact ⟨h.1, hk _ h.2⟩ | exact ⟨h.1, h.2.1, hk _ h.2.2⟩
  · cases op <;> simp only at h ⊢ <;> first | exact hk _ h | exact ⟨h.1, hk _ h.2⟩
  · exact h.elim
theorem aun_mono {op : UnOp} {x : AV} {K K' : AV → Prop} (hk : ∀ v, K v → K' v) (h : aun op x K) : aun op x K' := by
  unfold aun at h ⊢
  split at h <;> first | exact hk _ h | exact h.elim

theorem aop_mono {pw rd : Nat → Prop} {o : AOp} {fr : Fr} {H : AH} {K K' : AV → AH → Prop} (hk : ∀ v H', K v H' → K' v H') (h : aop (env P) pw rd o fr H K) : aop (env P) pw rd o fr H K' := by
  cases o <;> simp only [aop] at h ⊢
  case mov => exact hk _ _ h
  case pick => split at h <;> first | exact hk _ _ h | exact h.elim
  case bin => exact abin_mono (fun v => hk v H) h
  case beq => split at h <;> first | exact hk _ _ h | exact h.elim
  case eqs =>
    split at h
    · refine ⟨h.1, h.2.1, ?_⟩
      have h := h.2.2
      split at h <;> first | exact hk _ _ h | exact h.elim
    · exact h.elim
  case eqn =>
    split at h
    · exact hk _ _ h
    · exact ⟨h.1, h.2.1, fun r => hk _ _ (h.2.2 r)⟩
  case un => exact aun_mono (fun v => hk v H) h
  case conv => split at h <;> first | exact hk _ _ h | exact h.elim
  case bts =>
    split at h
    · split at h
      · refine ⟨h.1, ?_⟩
        have h := h.2
        split at h
        · exact ⟨h.1, hk _ _ h.2⟩
        · exact h.elim
      · exact h.elim
    · split at h
      · exact ⟨h.1, hk _ _ h.2⟩
      · exact h.elim
    · exact h.elim
  case fld =>
    split at h
    · split at h <;> first | exact hk _ _ h | exact h.elim
    · exact h.elim
  case ext =>
    split at h
    · split at h <;> first | exact hk _ _ h | exact h.elim
    · exact h.elim
  case nilc => split at h <;> first | exact hk _ _ h | exact h.elim
  case fad => split at h <;> first | exact hk _ _ h | exact h.elim
  case iad =>
    split at h
    · exact ⟨h.1, h.2.1, h.2.2.1, hk _ _ h.2.2.2⟩
    · refine ⟨h.1, ?_⟩
      have h := h.2
      split at h
      · exact ⟨h.1, hk _ _ h.2⟩
      · exact h.elim
    · exact h.elim
  case idx =>
    split at h
    · exact ⟨h.1, h.2.1, hk _ _ h.2.2⟩
    · exact h.elim
  case sls =>
    split at h
    · split at h
      · exact ⟨h.1, h.2.1, h.2.2.1, h.2.2.2.1, hk _ _ h.2.2.2.2⟩
      · exact h.elim
    · split at h
      · exact ⟨h.1, h.2.1, h.2.2.1, h.2.2.2.1, hk _ _ h.2.2.2.2⟩
      · exact h.elim
    · exact h.elim
  case sst =>
    split at h
    · split at h
      · exact ⟨h.1, h.2.1, h.2.2.1, hk _ _ h.2.2.2⟩
      · exact h.elim
    · exact h.elim
  case load =>
    split at h
    · refine ⟨h.1, ?_⟩
      have h := h.2
      split at h <;> first | exact hk _ _ h | exact h.elim
    · refine ⟨h.1, ?_⟩
      have h := h.2
      split at h <;> first | exact hk _ _ h | exact h.elim
    · exact h.elim
  case stor =>
    split at h
    · refine ⟨h.1, ?_⟩
      have h := h.2
      split at h
      · refine ⟨h.1, ?_⟩
        have h := h.2
        split at h
        · exact ⟨h.1, h.2.1, h.2.2.1, hk _ _ h.2.2.2⟩
        · exact h.elim
      · exact h.elim
    · exact h.elim
  case box => exact ⟨h.1, hk _ _ h.2⟩
  case aloc => exact ⟨h.1, hk _ _ h.2⟩
  case bld => exact ⟨h.1, hk _ _ h.2⟩
  case bsl => exact ⟨h.1, hk _ _ h.2⟩
  case mks =>
    split at h
    · exact ⟨h.1, h.2.1, h.2.2.1, h.2.2.2.1, hk _ _ h.2.2.2.2⟩
    · exact h.elim
  case mkf => exact hk _ _ h
  case call =>
    split at h
    · exact env_mono h fun r H' hh => hk _ _ hh
    · exact h.elim
  case callm =>
    split at h
    · obtain ⟨M, h1, h2⟩ := h
      exact ⟨M, h1, env_mono h2 fun r H' hh => hk _ _ hh⟩
    · exact h.elim
  case app =>
    split at h
    · split at h
      · exact ⟨h.1, h.2.1, h.2.2.1, h.2.2.2.1, h.2.2.2.2.1, h.2.2.2.2.2.1, h.2.2.2.2.2.2.1, hk _ _ h.2.2.2.2.2.2.2⟩
      · exact h.elim
    · split at h
      · exact ⟨h.1, h.2.1, h.2.2.1, h.2.2.2.1, h.2.2.2.2.1, h.2.2.2.2.2.1, hk _ _ h.2.2.2.2.2.2⟩
      · exact h.elim
    · exact h.elim
  case cpy =>
    split at h
    · split at h
      · exact ⟨h.1, h.2.1, h.2.2.1, h.2.2.2.1, h.2.2.2.2.1, h.2.2.2.2.2.1, hk _ _ h.2.2.2.2.2.2⟩
      · exact h.elim
    · split at h
      · exact ⟨h.1, h.2.1, h.2.2.1, h.2.2.2.1, h.2.2.2.2.1, hk _ _ h.2.2.2.2.2⟩
      · exact h.elim
    · exact h.elim
  case len =>
    split at h <;> first | exact ⟨h.1, hk _ _ h.2⟩ | exact h.elim
  case mm => split at h <;> first | exact hk _ _ h | exact h.elim
  case mif => exact hk _ _ h
end

/-- Operations, and '&&' ('want') or '||' trees: slot t tells whether the body is carried out; its result, in x, or 'not want' comes into d. -/
inductive AI where
  | op (d : Option Nat) (o : AOp)
  | br (t : Nat) (want : Bool) (body : List AI) (dl : List Nat) (d x : Nat)

mutual
def AI.flat (g : Option (Nat × Bool)) : AI → List AO
  | .op d o => [⟨d, g, o⟩]
  | .br t want body _ d x => AI.flats (some (t, want)) body ++ [⟨some d, g, if want then .pick (.t t) (.t x) (.c (.b false)) else .pick (.t t) (.c (.b true)) (.t x)⟩]
def AI.flats (g : Option (Nat × Bool)) : List AI → List AO
  | [] => []
  | i :: r => i.flat g ++ AI.flats g r
end
mutual
def AI.dsts : AI → List Nat
  | .op d _ => d.toList
  | .br _ _ body _ d _ => AI.dstss body ++ [d]
def AI.dstss : List AI → List Nat
  | [] => []
  | i :: r => i.dsts ++ AI.dstss r
end
-- Within a body: whether what a tree asks stands among what the body has written.
mutual
def AI.okG (D : List Nat) : AI → Bool
  | .op _ _ => true
  | .br t _ body dl _ _ => D.contains t && !(AI.dstss body).contains t && AI.oksG [] body && AI.dstss body == dl
def AI.oksG (D : List Nat) : List AI → Bool
  | [] => true
  | i :: r => i.okG D && AI.oksG (i.dsts ++ D) r
end
def AI.ok : AI → Bool
  | .op _ _ => true
  | .br t _ body dl _ _ => !(AI.dstss body).contains t && AI.oksG [] body && AI.dstss body == dl
def AI.oks : List AI → Bool
  | [] => true
  | i :: r => i.ok && AI.oks r

def Fr.mix (fr : Fr) (ds : List Nat) (vs : Fr) : Fr := fun k => if k ∈ ds then vs k else fr k

mutual
def aitem (E : Env) : AI → Fr → AH → (Fr → AH → Prop) → Prop
  | .op d o, fr, H, K => aop E (fun _ => True) (fun _ => True) o fr H fun v H' => K (fr.setO d v) H'
  | .br t want body dl d x, fr, H, K => match fr.get t with
    | .b c => ∃ r1 : Bool, (c = want → aitems E body fr H fun fr' H' => H' = H ∧ fr'.get x = .b r1) ∧ ∀ vs, K ((fr.mix dl vs).set d (.b (if c = want then r1 else !want))) H
    | _ => False
def aitems (E : Env) : List AI → Fr → AH → (Fr → AH → Prop) → Prop
  | [], fr, H, K => K fr H
  | i :: r, fr, H, K => aitem E i fr H fun fr' H' => aitems E r fr' H' K
end

section
variable {P : Program}
def Sat (g : Option (Nat × Bool)) (fr : Fr) (ds : List Nat) : Prop := match g with
  | none => True
  | some (t, want) => fr.get t = .b want ∧ t ∉ ds

theorem ago_run {g : Option (Nat × Bool)} {fr : Fr} {ds : List Nat} (hs : Sat g fr ds) {d : Option Nat} {o : AOp} {H : AH} {K : Fr → AH → Prop} {pw rd : Nat → Prop}
    (h : aop (env P) pw rd o fr H fun v H' => K (fr.setO d v) H') : ago (env P) pw rd ⟨d, g, o⟩ fr H K := by
  unfold ago
  cases g with
  | none => exact h
  | some tw =>
    obtain ⟨t, want⟩ := tw
    simp only [Sat] at hs
    simp only [hs.1, if_true]
    exact h

theorem aops_append {E : Env} : ∀ (xs ys : List AO) (fr : Fr) (H : AH) (K : Fr → AH → Prop), aops E (xs ++ ys) fr H K = aops E xs fr H fun fr' H' => aops E ys fr' H' K
  | [], _, _, _, _ => rfl
  | x :: xs, ys, fr, H, K => by
    simp only [List.cons_append, aops]
    congr 1
    funext fr' H'
    exact aops_append xs ys fr' H' K

theorem aops_mono {xs : List AO} {fr : Fr} {H : AH} {K K' : Fr → AH → Prop} (hk : ∀ fr' H', K fr' H' → K' fr' H') (h : aops (env P) xs fr H K) : aops (env P) xs fr H K' := by
  induction xs generalizing fr H with
  | nil => exact hk _ _ h
  | cons x xs ih =>
    simp only [aops] at h ⊢
    unfold ago at h ⊢
    split at h
    · exact aop_mono (fun v H' hh => ih hh) h
    · split at h
      · split at h
        · rename_i hc; rw [if_pos hc]; exact aop_mono (fun v H' hh => ih hh) h
        · rename_i hc; rw [if_neg hc]; exact ih h
      · exact ih h
      · exact h.elim

-- What is not wanted is left out.
mutual
theorem flat_skip {t : Nat} {want : Bool} : ∀ (i : AI) (D : List Nat) (fr : Fr) (H : AH) (K : Fr → AH → Prop), (fr.get t = .b (!want) ∨ fr.get t = .t []) → t ∉ i.dsts → i.okG D = true → (∀ k ∈ D, fr k = .t []) →
    (∀ fr', (∀ k, k ∉ i.dsts → fr' k = fr k) → (∀ k ∈ i.dsts, fr' k = .t []) → K fr' H) → aops (env P) (i.flat (some (t, want))) fr H K
  | .op d o, D, fr, H, K, hg, ht, _, _, h => by
    simp only [AI.flat, aops, ago]
    have hK : K (fr.setO d (.t [])) H := by
      refine h _ (fun k hk => ?_) (fun k hk => ?_)
      · cases d with
        | none => rfl
        | some d =>
          simp only [AI.dsts, Option.toList, List.mem_singleton] at hk
          simp only [Fr.setO, Fr.set, hk, if_false]
      · cases d with
        | none => simp [AI.dsts] at hk
        | some d =>
          simp only [AI.dsts, Option.toList, List.mem_singleton] at hk
          simp only [Fr.setO, Fr.set, hk, if_true]
    rcases hg with hg | hg <;> simp only [hg]
    · rw [if_neg (by cases want <;> simp)]; exact hK
    · exact hK
  | .br t2 want2 body dl d x, D, fr, H, K, hg, ht, hok, hD, h => by
    simp only [AI.flat]
    rw [aops_append]
    simp only [AI.dsts, List.mem_append, List.mem_singleton, not_or] at ht
    simp only [AI.okG, Bool.and_eq_true, Bool.not_eq_true', List.contains_eq_mem, decide_eq_false_iff_not, decide_eq_true_eq] at hok
    refine flats_skip body [] fr H _ (.inr (hD t2 hok.1.1.1)) hok.1.1.2 hok.1.2 (by simp) fun fr' h1 h2 => ?_
    simp only [aops, ago]
    have hK : K (fr'.setO (some d) (.t [])) H := by
      refine h _ (fun k hk => ?_) (fun k hk => ?_)
      · simp only [AI.dsts, List.mem_append, List.mem_singleton, not_or] at hk
        simp only [Fr.setO, Fr.set, hk.2, if_false]
        exact h1 k hk.1
      · simp only [AI.dsts, List.mem_append, List.mem_singleton] at hk
        simp only [Fr.setO, Fr.set]
        split
        · rfl
        · rename_i hne; exact h2 k (hk.resolve_right hne)
    have hg' : fr'.get t = .b (!want) ∨ fr'.get t = .t [] := by rw [Fr.get, h1 t ht.1]; exact hg
    rcases hg' with hg | hg <;> simp only [hg]
    · rw [if_neg (by cases want <;> simp)]; exact hK
    · exact hK
theorem flats_skip {t : Nat} {want : Bool} : ∀ (is : List AI) (D : List Nat) (fr : Fr) (H : AH) (K : Fr → AH → Prop), (fr.get t = .b (!want) ∨ fr.get t = .t []) → t ∉ AI.dstss is → AI.oksG D is = true → (∀ k ∈ D, fr k = .t []) →
    (∀ fr', (∀ k, k ∉ AI.dstss is → fr' k = fr k) → (∀ k ∈ AI.dstss is, fr' k = .t []) → K fr' H) → aops (env P) (AI.flats (some (t, want)) is) fr H K
  | [], D, fr, H, K, _, _, _, _, h => by simp only [AI.flats, aops]; exact h fr (fun _ _ => rfl) (by simp [AI.dstss])
  | i :: r, D, fr, H, K, hg, ht, hok, hD, h => by
    simp only [AI.flats]
    rw [aops_append]
    simp only [AI.dstss, List.mem_append, not_or] at ht
    simp only [AI.oksG, Bool.and_eq_true] at hok
    refine flat_skip i D fr H _ hg ht.1 hok.1 hD fun fr' h1 h2 => ?_
    refine flats_skip r (i.dsts ++ D) fr' H _ (by rw [Fr.get, h1 t ht.1]; exact hg) ht.2 hok.2 (fun k hk => ?_) fun fr2 h3 h4 => h fr2 (fun k hk => ?_) (fun k hk => ?_)
    · by_cases hki : k ∈ i.dsts
      · exact h2 k hki
      · rw [h1 k hki]; exact hD k ((List.mem_append.1 hk).resolve_left hki)
    · simp only [AI.dstss, List.mem_append, not_or] at hk
      rw [h3 k hk.2, h1 k hk.1]
    · simp only [AI.dstss, List.mem_append] at hk
      by_cases hkr : k ∈ AI.dstss r
      · exact h4 k hkr
      · rw [h3 k hkr]; exact h2 k (hk.resolve_right hkr)
end

theorem aitem_frame : ∀ (i : AI) (_ : i.ok = true) (fr : Fr) (H : AH) (K : Fr → AH → Prop), aitem (env P) i fr H K → aitem (env P) i fr H fun fr' H' => K fr' H' ∧ ∀ k, k ∉ i.dsts → fr' k = fr k
  | .op d o, _, fr, H, K, h => by
    simp only [aitem] at h ⊢
    refine aop_mono (fun v H' hh => ⟨hh, fun k hk => ?_⟩) h
    cases d with
    | none => rfl
    | some d =>
      simp only [AI.dsts, Option.toList, List.mem_singleton] at hk
      simp only [Fr.setO, Fr.set, hk, if_false]
  | .br t want body dl d x, hok, fr, H, K, h => by
    simp only [aitem] at h ⊢
    simp only [AI.ok, Bool.and_eq_true, beq_iff_eq] at hok
    rw [← hok.2] at h ⊢
    split at h
    · obtain ⟨r1, h1, h2⟩ := h
      refine ⟨r1, h1, fun vs => ⟨h2 vs, fun k hk => ?_⟩⟩
      simp only [AI.dsts, List.mem_append, List.mem_singleton, not_or] at hk
      simp only [Fr.set, Fr.mix, hk.1, hk.2, if_false]
    · exact h.elim

theorem aitem_mono : ∀ (i : AI) (fr : Fr) (H : AH) (K K' : Fr → AH → Prop), (∀ fr' H', K fr' H' → K' fr' H') → aitem (env P) i fr H K → aitem (env P) i fr H K'
  | .op d o, fr, H, K, K', hk, h => by
    simp only [aitem] at h ⊢
    exact aop_mono (fun v H' hh => hk _ _ hh) h
  | .br t want body dl d x, fr, H, K, K', hk, h => by
    simp only [aitem] at h ⊢
    split at h
    · obtain ⟨r1, h1, h2⟩ := h
      exact ⟨r1, h1, fun vs => hk _ _ (h2 vs)⟩
    · exact h.elim

theorem aitems_mono : ∀ (is : List AI) (fr : Fr) (H : AH) (K K' : Fr → AH → Prop), (∀ fr' H', K fr' H' → K' fr' H') → aitems (env P) is fr H K → aitems (env P) is fr H K'
  | [], fr, H, K, K', hk, h => by simp only [aitems] at h ⊢; exact hk _ _ h
  | i :: r, fr, H, K, K', hk, h => by
    simp only [aitems] at h ⊢
    exact aitem_mono i fr H _ _ (fun fr' H' hh => aitems_mono r fr' H' K K' hk hh) h

theorem aitems_frame : ∀ (is : List AI) (_ : AI.oks is = true) (fr : Fr) (H : AH) (K : Fr → AH → Prop), aitems (env P) is fr H K → aitems (env P) is fr H fun fr' H' => K fr' H' ∧ ∀ k, k ∉ AI.dstss is → fr' k = fr k
  | [], _, fr, H, K, h => by simp only [aitems] at h ⊢; exact ⟨h, fun _ _ => trivial⟩
  | i :: r, hok, fr, H, K, h => by
    simp only [aitems] at h ⊢
    simp only [AI.oks, Bool.and_eq_true] at hok
    refine aitem_mono i fr H _ _ (fun fr' H' ⟨h1, h2⟩ => ?_) (aitem_frame i hok.1 fr H _ h)
    refine aitems_mono r fr' H' _ _ (fun fr2 H2 ⟨h3, h4⟩ => ⟨h3, fun k hk => ?_⟩) (aitems_frame r hok.2 fr' H' K h1)
    simp only [AI.dstss, List.mem_append, not_or] at hk
    rw [h4 k hk.2, h2 k hk.1]

theorem AI.ok_of_okG {D : List Nat} : ∀ {i : AI}, i.okG D = true → i.ok = true
  | .op _ _, _ => rfl
  | .br t w body dl d x, h => by
    simp only [AI.okG, Bool.and_eq_true] at h
    simp only [AI.ok, Bool.and_eq_true]
    exact ⟨⟨h.1.1.2, h.1.2⟩, h.2⟩
theorem AI.oks_of_oksG : ∀ {is : List AI} {D : List Nat}, AI.oksG D is = true → AI.oks is = true
  | [], _, _ => rfl
  | i :: r, D, h => by
    simp only [AI.oksG, Bool.and_eq_true] at h
    simp only [AI.oks, Bool.and_eq_true]
    exact ⟨AI.ok_of_okG h.1, AI.oks_of_oksG h.2⟩

-- What is wanted is carried out.
mutual
theorem flat_run : ∀ (i : AI) (g : Option (Nat × Bool)) (fr : Fr) (H : AH) (K : Fr → AH → Prop), Sat g fr i.dsts → i.ok = true → aitem (env P) i fr H K → aops (env P) (i.flat g) fr H K
  | .op d o, g, fr, H, K, hs, _, h => by
    simp only [aitem] at h
    simp only [AI.flat, aops]
    exact ago_run hs h
  | .br t want body dl d x, g, fr, H, K, hs, hok, h => by
    simp only [aitem] at h
    split at h
    case h_2 => exact h.elim
    rename_i c hc
    obtain ⟨r1, h1, h2⟩ := h
    simp only [AI.ok, Bool.and_eq_true, Bool.not_eq_true', List.contains_eq_mem, decide_eq_false_iff_not, beq_iff_eq] at hok
    obtain ⟨hok, hdl⟩ := hok
    subst hdl
    simp only [AI.flat]
    rw [aops_append]
    have hsat : ∀ fr' : Fr, (∀ k, k ∉ AI.dstss body → fr' k = fr k) → Sat g fr' (AI.dsts (.br t want body (AI.dstss body) d x)) := fun fr' hfr => by
      unfold Sat at hs ⊢
      split
      · trivial
      · rename_i t2 w2
        simp only at hs
        refine ⟨?_, hs.2⟩
        have := hs.2
        simp only [AI.dsts, List.mem_append, List.mem_singleton, not_or] at this
        rw [Fr.get, hfr t2 this.1]; exact hs.1
    by_cases hcw : c = want
    · refine aops_mono (fun fr' H' hh => ?_) (flats_run body (some (t, want)) fr H _ ⟨hcw ▸ hc, hok.1⟩ (AI.oks_of_oksG hok.2) (aitems_frame body (AI.oks_of_oksG hok.2) fr H _ (h1 hcw)))
      obtain ⟨⟨rfl, hx⟩, hfr⟩ := hh
      simp only [aops]
      refine ago_run (hsat fr' hfr) ?_
      have ht : fr'.get t = .b want := by rw [Fr.get, hfr t hok.1, ← hcw]; exact hc
      have hfin : fr'.setO (some d) (.b r1) = (fr.mix (AI.dstss body) fr').set d (.b (if c = want then r1 else !want)) := by
        funext k
        simp only [Fr.setO, Fr.set, Fr.mix, hcw, if_true]
        split
        · rfl
        · split
          · rfl
          · rename_i hk; exact hfr k hk
      have := h2 fr'
      rw [← hfin] at this
      cases want
      · simp only [Bool.false_eq_true, if_false, aop, Fr.ev, ht, hx]; exact this
      · simp only [if_true, aop, Fr.ev, ht, hx]; exact this
    · have hcn : c = !want := by cases c <;> cases want <;> simp_all
      refine flats_skip body [] fr H _ (.inl (by rw [hc, hcn])) hok.1 hok.2 (by simp) fun fr' hfr _ => ?_
      simp only [aops]
      refine ago_run (hsat fr' hfr) ?_
      have ht : fr'.get t = .b (!want) := by rw [Fr.get, hfr t hok.1, ← hcn]; exact hc
      have hfin : fr'.setO (some d) (.b (!want)) = (fr.mix (AI.dstss body) fr').set d (.b (if c = want then r1 else !want)) := by
        funext k
        simp only [Fr.setO, Fr.set, Fr.mix, hcw, if_false]
        split
        · rfl
        · split
          · rfl
          · rename_i hk; exact hfr k hk
      have := h2 fr'
      rw [← hfin] at this
      cases want
      · simp only [Bool.not_false] at ht this
        simp only [Bool.false_eq_true, if_false, aop, Fr.ev, ht]; exact this
      · simp only [Bool.not_true] at ht this
        simp only [if_true, aop, Fr.ev, ht]; exact this
theorem flats_run : ∀ (is : List AI) (g : Option (Nat × Bool)) (fr : Fr) (H : AH) (K : Fr → AH → Prop), Sat g fr (AI.dstss is) → AI.oks is = true → aitems (env P) is fr H K → aops (env P) (AI.flats g is) fr H K
  | [], g, fr, H, K, _, _, h => by simpa only [AI.flats, aops, aitems] using h
  | i :: r, g, fr, H, K, hs, hok, h => by
    simp only [aitems] at h
    simp only [AI.oks, Bool.and_eq_true] at hok
    simp only [AI.flats]
    rw [aops_append]
    have hs1 : Sat g fr i.dsts := by
      unfold Sat at hs ⊢
      split
      · trivial
      · simp only [AI.dstss, List.mem_append, not_or] at hs
        exact ⟨hs.1, hs.2.1⟩
    refine aops_mono (fun fr' H' hh => ?_) (flat_run i g fr H _ hs1 hok.1 (aitem_frame i hok.1 fr H _ h))
    obtain ⟨hh, hfr⟩ := hh
    refine flats_run r g fr' H' K ?_ hok.2 hh
    unfold Sat at hs ⊢
    split
    · trivial
    · rename_i t2 w2
      simp only [AI.dstss, List.mem_append, not_or] at hs
      exact ⟨by rw [Fr.get, hfr t2 hs.2.1]; exact hs.1, hs.2.2⟩
end

/-- A region told as trees. -/
theorem awp_reg {is : List AI} {fr : Fr} {H : AH} {Q : Ex → Fr → AH → Prop} (hok : AI.oks is = true) (h : aitems (env P) is fr H (Q .normal)) : awp (env P) (.reg (AI.flats none is)) fr H Q := by
  simp only [awp]
  exact flats_run is none fr H _ trivial hok h

/-! ### Regions of quiet operations whose order is drawn -/
def Plan.line : Nat → Nat → Plan
  | _, 0 => .done
  | i, n + 1 => .take i (Plan.line (i + 1) n)

theorem aop_quiet {o : AOp} (hq : o.quiet = true) {fr : Fr} {H : AH} {K : AV → AH → Prop} (h : aop (env P) (fun _ => True) (fun _ => True) o fr H K) :
    aop (env P) (fun _ => False) (rdp [] H) o fr H fun v H' => H' = H ∧ K v H := by
  have key : ∀ {K' : AV → AH → Prop}, (∀ v H', K v H' → K' v H') → aop (env P) (fun _ => True) (fun _ => True) o fr H K' := fun hk => aop_mono hk h
  cases o <;> simp only [AOp.quiet, Bool.false_eq_true] at hq
  case load sz ag x =>
    simp only [aop] at h ⊢
    split at h
    · rename_i id i j hx
      obtain ⟨_, h⟩ := h
      split at h
      · rename_i v hv
        have hs : (H.get id).isSome = true := by
          simp only [AH.row, Option.bind_eq_some_iff] at hv
          obtain ⟨_, ⟨B, hB, _⟩, _⟩ := hv
          rw [hB]; rfl
        refine ⟨.inr ⟨by simp, hs⟩, ?_⟩
        exact ⟨trivial, h⟩
      · exact h.elim
    · obtain ⟨_, h⟩ := h
      split at h
      · exact ⟨.inl rfl, trivial, h⟩
      · exact h.elim
    · exact h.elim
  case bts x =>
    simp only [aop] at h ⊢
    split at h
    · rename_i id i n hx
      split at h
      · rename_i B hB
        refine ⟨h.1, ?_⟩
        have h := h.2
        split at h
        · exact ⟨.inr ⟨by simp, by rw [hB]; rfl⟩, trivial, h.2⟩
        · exact h.elim
      · exact h.elim
    · split at h
      · exact ⟨.inl rfl, trivial, h.2⟩
      · exact h.elim
    · exact h.elim
  case bin =>
    simp only [aop] at h ⊢
    exact abin_mono (fun v hv => ⟨trivial, hv⟩) h
  case un =>
    simp only [aop] at h ⊢
    exact aun_mono (fun v hv => ⟨trivial, hv⟩) h
  case mov => simp only [aop] at h ⊢; exact ⟨trivial, h⟩
  case mkf => simp only [aop] at h ⊢; exact ⟨trivial, h⟩
  case mif => simp only [aop] at h ⊢; exact ⟨trivial, h⟩
  case bld => simp only [aop] at h ⊢; exact ⟨h.1, trivial, h.2⟩
  case pick => simp only [aop] at h ⊢; split at h <;> first | exact ⟨trivial, h⟩ | exact h.elim
  case beq => simp only [aop] at h ⊢; split at h <;> first | exact ⟨trivial, h⟩ | exact h.elim
  case conv => simp only [aop] at h ⊢; split at h <;> first | exact ⟨trivial, h⟩ | exact h.elim
  case nilc => simp only [aop] at h ⊢; split at h <;> first | exact ⟨trivial, h⟩ | exact h.elim
  case fad => simp only [aop] at h ⊢; split at h <;> first | exact ⟨trivial, h⟩ | exact h.elim
  case mm => simp only [aop] at h ⊢; split at h <;> first | exact ⟨trivial, h⟩ | exact h.elim
  case len => simp only [aop] at h ⊢; split at h <;> first | exact ⟨h.1, trivial, h.2⟩ | exact h.elim
  case eqs =>
    simp only [aop] at h ⊢
    split at h
    · refine ⟨h.1, h.2.1, ?_⟩
      have h := h.2.2
      split at h <;> first | exact ⟨trivial, h⟩ | exact h.elim
    · exact h.elim
  case eqn =>
    simp only [aop] at h ⊢
    split at h
    · exact ⟨trivial, h⟩
    · exact ⟨h.1, h.2.1, fun r => ⟨trivial, h.2.2 r⟩⟩
  case fld =>
    simp only [aop] at h ⊢
    split at h
    · split at h <;> first | exact ⟨trivial, h⟩ | exact h.elim
    · exact h.elim
  case ext =>
    simp only [aop] at h ⊢
    split at h
    · split at h <;> first | exact ⟨trivial, h⟩ | exact h.elim
    · exact h.elim
  case iad =>
    simp only [aop] at h ⊢
    split at h
    · exact ⟨h.1, h.2.1, h.2.2.1, trivial, h.2.2.2⟩
    · refine ⟨h.1, ?_⟩
      have h := h.2
      split at h
      · exact ⟨h.1, trivial, h.2⟩
      · exact h.elim
    · exact h.elim
  case idx =>
    simp only [aop] at h ⊢
    split at h
    · exact ⟨h.1, h.2.1, trivial, h.2.2⟩
    · exact h.elim
  case sls =>
    simp only [aop] at h ⊢
    split at h
    · split at h
      · exact ⟨h.1, h.2.1, h.2.2.1, h.2.2.2.1, trivial, h.2.2.2.2⟩
      · exact h.elim
    · split at h
      · exact ⟨h.1, h.2.1, h.2.2.1, h.2.2.2.1, trivial, h.2.2.2.2⟩
      · exact h.elim
    · exact h.elim
  case sst =>
    simp only [aop] at h ⊢
    split at h
    · split at h
      · exact ⟨h.1, h.2.1, h.2.2.1, trivial, h.2.2.2⟩
      · exact h.elim
    · exact h.elim

theorem ago_quiet' {o : AO} (hq : o.o.quiet = true) {fr : Fr} {H : AH} {K : Fr → AH → Prop} (h : ago (env P) (fun _ => True) (fun _ => True) o fr H K) :
    agg (env P) (rdp [] H) o fr H fr fun v => K (fr.setO o.d v) H := by
  unfold ago at h
  unfold agg
  split at h
  · exact aop_mono (fun v H' hh => hh.2) (aop_quiet hq h)
  · split at h
    · split at h
      · rename_i hc; rw [if_pos hc]; exact aop_mono (fun v H' hh => hh.2) (aop_quiet hq h)
      · rename_i hc; rw [if_neg hc]; exact h
    · exact h
    · exact h.elim

theorem ago_mono {o : AO} {fr : Fr} {H : AH} {pw rd : Nat → Prop} {K K' : Fr → AH → Prop} (hk : ∀ fr' H', K fr' H' → K' fr' H') (h : ago (env P) pw rd o fr H K) : ago (env P) pw rd o fr H K' := by
  unfold ago at h ⊢
  split at h
  · exact aop_mono (fun v H' hh => hk _ _ hh) h
  · split at h
    · split at h
      · rename_i hc; rw [if_pos hc]; exact aop_mono (fun v H' hh => hk _ _ hh) h
      · rename_i hc; rw [if_neg hc]; exact hk _ _ h
    · exact hk _ _ h
    · exact h.elim

theorem agg_mono {o : AO} {gd fr : Fr} {H : AH} {rd : Nat → Prop} {K K' : AV → Prop} (hk : ∀ v, K v → K' v) (h : agg (env P) rd o gd H fr K) : agg (env P) rd o gd H fr K' := by
  unfold agg at h ⊢
  split at h
  · exact aop_mono (fun v H' hh => hk _ hh) h
  · split at h
    · split at h
      · rename_i hc; rw [if_pos hc]; exact aop_mono (fun v H' hh => hk _ hh) h
      · rename_i hc; rw [if_neg hc]; exact hk _ h
    · exact hk _ h
    · exact h.elim

theorem aplan_line {xs : List AO} (hq : xs.all (fun x => x.o.quiet) = true) {H : AH} {K : Fr → AH → Prop} : ∀ (n i : Nat) (fr : Fr), i + n = xs.length → aops (env P) (xs.drop i) fr H K → aplan (env P) [] H xs (Plan.line i n) fr fr H K
  | 0, i, fr, hi, h => by
    rw [List.drop_eq_nil_of_le (by omega)] at h
    simpa only [Plan.line, aplan, aops] using h
  | n + 1, i, fr, hi, h => by
    have hlt : i < xs.length := by omega
    rw [List.drop_eq_getElem_cons hlt] at h
    simp only [Plan.line, aplan, List.getElem?_eq_getElem hlt]
    simp only [aops] at h
    refine .inl (agg_mono (fun v hh => ?_) (ago_quiet' (List.all_eq_true.1 hq _ (List.getElem_mem hlt)) h))
    exact aplan_line hq n (i + 1) _ (by omega) hh

theorem awp_dline {is : List AI} {n : Nat} {fr : Fr} {H : AH} {Q : Ex → Fr → AH → Prop} (hok : (AI.oks is && (AI.flats none is).all (fun x => x.o.quiet) && (AI.flats none is).length == n) = true)
    (h : aitems (env P) is fr H (Q .normal)) : awp (env P) (.dreg (Plan.line 0 n) (AI.flats none is)) fr H Q := by
  simp only [Bool.and_eq_true, beq_iff_eq] at hok
  simp only [awp]
  exact ⟨[], aplan_line hok.1.2 n 0 fr (by rw [hok.2]; omega) (by simpa using flats_run is none fr H _ trivial hok.1.1 h)⟩

/-! ### Regions whose order is drawn, of which but one can come -/
/-- m quiet operations, then n that come in their order. -/
def Plan.alls : Nat → Nat → Plan
  | _, 0 => .done
  | i, n + 1 => .all [(i, Plan.alls (i + 1) n)]
def Plan.lin (i m n : Nat) : Plan := match m with
  | 0 => Plan.alls i n
  | m + 1 => .take i (Plan.lin (i + 1) m n)
def AOp.still : AOp → Bool
  | .stor .. | .callm .. | .app .. | .apps .. | .cpy .. => false
  | _ => true

theorem aop_still {o : AOp} (hq : o.still = true) {fr : Fr} {H : AH} {pw : Nat → Prop} {K : AV → AH → Prop} (h : aop (env P) (fun _ => True) (fun _ => True) o fr H K) :
    aop (env P) pw (fun _ => True) o fr H K := by
  cases o <;> simp only [AOp.still, Bool.false_eq_true] at hq <;> exact h
theorem ago_still {o : AO} (hq : o.o.still = true) {fr : Fr} {H : AH} {pw : Nat → Prop} {K : Fr → AH → Prop} (h : ago (env P) (fun _ => True) (fun _ => True) o fr H K) :
    ago (env P) pw (fun _ => True) o fr H K := by
  unfold ago at h ⊢
  split at h
  · exact aop_still hq h
  · split at h
    · split at h
      · rename_i hc; rw [if_pos hc]; exact aop_still hq h
      · rename_i hc; rw [if_neg hc]; exact h
    · exact h
    · exact h.elim

theorem aplan_lin2 {xs : List AO} {Hs : AH} {K : Fr → AH → Prop} : ∀ (n i : Nat) (gd : Fr) (fr : Fr) (H : AH), i + n = xs.length → (∀ x ∈ xs.drop i, x.o.still = true) → aops (env P) (xs.drop i) fr H K → aplan (env P) [] Hs xs (Plan.alls i n) gd fr H K
  | 0, i, gd, fr, H, hi, _, h => by
    rw [List.drop_eq_nil_of_le (by omega)] at h
    simpa only [Plan.alls, aplan, aops] using h
  | n + 1, i, gd, fr, H, hi, hq, h => by
    have hlt : i < xs.length := by omega
    rw [List.drop_eq_getElem_cons hlt] at h hq
    simp only [Plan.alls, aplan, aplans, List.getElem?_eq_getElem hlt, and_true]
    simp only [aops] at h
    refine ago_mono (fun fr' H' hh => ?_) (ago_still (hq _ (List.mem_cons_self ..)) h)
    exact aplan_lin2 n (i + 1) _ fr' H' (by omega) (fun x hx => hq x (List.mem_cons_of_mem _ hx)) hh

theorem aplan_lin {xs : List AO} {H : AH} {K : Fr → AH → Prop} {n : Nat} : ∀ (m i : Nat) (fr : Fr), i + m + n = xs.length → (∀ x ∈ (xs.drop i).take m, x.o.quiet = true) → (∀ x ∈ xs.drop (i + m), x.o.still = true) → aops (env P) (xs.drop i) fr H K → aplan (env P) [] H xs (Plan.lin i m n) fr fr H K
  | 0, i, fr, hi, h1, h2, h => by rw [Plan.lin]; exact aplan_lin2 n i fr fr H (by omega) h2 h
  | m + 1, i, fr, hi, h1, h2, h => by
    have hlt : i < xs.length := by omega
    rw [List.drop_eq_getElem_cons hlt] at h h1
    simp only [Plan.lin, aplan, List.getElem?_eq_getElem hlt]
    simp only [aops] at h
    refine .inl (agg_mono (fun v hh => ?_) (ago_quiet' (h1 _ (by rw [List.take_succ_cons]; exact List.mem_cons_self ..)) h))
    exact aplan_lin m (i + 1) _ (by omega) (fun x hx => h1 x (by rw [List.take_succ_cons]; exact List.mem_cons_of_mem _ hx)) (by rw [show i + 1 + m = i + (m + 1) by omega]; exact h2) hh

theorem awp_dlin {is : List AI} {m n : Nat} {fr : Fr} {H : AH} {Q : Ex → Fr → AH → Prop}
    (hok : (AI.oks is && ((AI.flats none is).take m).all (fun x => x.o.quiet) && ((AI.flats none is).drop m).all (fun x => x.o.still) && (AI.flats none is).length == m + n) = true)
    (h : aitems (env P) is fr H (Q .normal)) : awp (env P) (.dreg (Plan.lin 0 m n) (AI.flats none is)) fr H Q := by
  simp only [Bool.and_eq_true, beq_iff_eq, List.all_eq_true] at hok
  simp only [awp]
  exact ⟨[], aplan_lin m 0 fr (by omega) (by simpa using hok.1.1.2) (by simpa using hok.1.2) (by simpa using flats_run is none fr H _ trivial hok.1.1.1 h)⟩
end
end Go.Proofs.Ytamnlngihccgiaa.AM
