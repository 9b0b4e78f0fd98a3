/- What the run yields, the abstract machine does. -/
import Derived.Test.YtamnlngihccgiaaRp
namespace Go.Proofs.Ytamnlngihccgiaa.AM
set_option linter.all false
open Go
set_option linter.constructorNameAsVariable false
set_option linter.unusedSimpArgs false
section
variable {P : Program} {O : Orac} {m : Mp} {H : Hp} {H1 : AH} {H0 : AH} {In : Nat → Prop} {fr : Fr2} {fr1 : Fr}

theorem okIf_eq (c : Bool) : ∀ l r : List Bool, okIf c l r = l.map (· || c) ++ r
  | [], r => rfl
  | ok :: l, r => by simp only [okIf, List.map_cons, List.cons_append, okIf_eq c l r]
theorem chks_some {α : Type} {x : α} : ∀ {l : List Bool} {r : Option α}, chks l r = some x → (∀ ok ∈ l, ok = true) ∧ r = some x
  | [], r, h => ⟨by simp, h⟩
  | ok :: l, r, h => by
    simp only [chks] at h
    obtain ⟨h1, h2⟩ := chks_some h
    cases ok with
    | true => exact ⟨by simpa using h1, by simpa [chk] using h2⟩
    | false => simp [chk] at h2
theorem FrE.dim {fr : Fr2} {fr1 : Fr} (h : FrE m fr fr1) : ∀ (dl : List Nat) (vs : Fr), FrE m (fr.dim dl) (fr1.mix dl vs)
  | [], vs => by
    have : fr1.mix [] vs = fr1 := by funext k; simp [Fr.mix]
    rw [this]; exact h
  | d :: r, vs => by
    intro t
    simp only [Fr2.dim, Fr2.get]
    cases e : Nat.beq d t with
    | true => simp only [cond_true, EV]
    | false =>
      simp only [cond_false]
      have ht : t ≠ d := fun e2 => by rw [e2] at e; simp at e
      have := FrE.dim h r vs t
      simp only [Fr.mix, List.mem_cons, ht, false_or] at this ⊢
      exact this
theorem FrE.set' {fr : Fr2} {fr1 : Fr} (h : FrE m fr fr1) {d : Nat} {v : V} {a : AV} (hv : EV m v a) : FrE m (fr.set d v) (fr1.set d a) := h.set (d := some d) hv

def allP (O : Orac) : Prop := ∀ g, O.isP g = true

mutual
theorem ritem_run (τ : Nat → Option GT) {α : Type} {x : α} : ∀ (i : AI) (O : Orac) (fr : Fr2) (H : Hp) (oks : List Bool) (K : Fr2 → Hp → List Bool → Option α), ritem τ O i fr H oks K = some x →
    ∃ fr' H' l, K fr' H' (l ++ oks) = some x ∧ (calmI i = true → allP O → H' = H) ∧ (OrcOk P O → ∀ (m : Mp) (fr1 : Fr) (H1 : AH), EH m H H1 → EX H0 In m H1 → FrE m fr fr1 → (∀ ok ∈ l, ok = true) →
      (aitem (env P) i fr1 H1 (QAfter H0 In m fr' H')) ∧ (calmI i = true → allP O → aitem (env P) i fr1 H1 fun fr1' H1' => H1' = H1 ∧ FrE m fr' fr1'))
  | .op d o, O, fr, H, oks, K, h => by
    simp only [ritem, force_eq] at h
    refine ⟨_, _, [_], h, fun hc hp => rop_calm hc hp, fun hO m fr1 H1 hH hX hf hl => ?_⟩
    have hok := hl _ (List.mem_singleton_self _)
    have hr : rop O (τat τ d) o fr H = (true, (rop O (τat τ d) o fr H).2.1, (rop O (τat τ d) o fr H).2.2) := Prod.ext hok rfl
    refine ⟨?_, fun hc hp => ?_⟩
    · simp only [aitem]
      refine rop_sound hO hH hX hf hr (fun e a ha => ⟨m, Mp.Le.refl m, by rw [e]; exact hH, hX, hf.set ha⟩) fun _ m' v1 H1' hm hv hh hx => ⟨m', hm, hh, hx, (hf.mono hm).set hv⟩
    · simp only [aitem]
      refine rop_sound hO hH hX hf hr (fun e a ha => ⟨rfl, hf.set ha⟩) fun hg => ?_
      obtain ⟨g, hg⟩ := hg hc
      rw [hp g] at hg; cases hg
  | .br t want body dl d y, O, fr, H, oks, K, h => by
    simp only [ritem] at h
    split at h
    case h_2 => cases h
    rename_i c hc
    cases hcb : calmIs body with
    | false => rw [hcb] at h; cases h
    | true =>
      rw [hcb] at h
      simp only [cond_true] at h
      obtain ⟨frb, Hb, lb, hb, _, hs⟩ := ritems_run τ body O.calm fr H [] _ h
      simp only [List.append_nil] at hb
      split at hb
      case h_2 => cases hb
      rename_i r1 hr1
      rw [okIf_eq] at hb
      refine ⟨_, H, _, hb, fun _ _ => rfl, fun hO m fr1 H1 hH hX hf hl => ?_⟩
      have hc1 := hf t
      rw [hc] at hc1
      simp only [EV] at hc1
      have key : ∃ r : Bool, (c = want → aitems (env P) body fr1 H1 fun fr' H' => H' = H1 ∧ fr'.get y = .b r) ∧ (if c = want then r else !want) = (bif want then c && r1 else c || r1) := by
        refine ⟨r1, fun e => ?_, by cases c <;> cases want <;> rfl⟩
        have hl' : ∀ ok ∈ lb, ok = true := fun ok hok => by
          have := hl _ (List.mem_map_of_mem hok)
          subst e
          cases c <;> simpa using this
        have := (hs hO.calm m fr1 H1 hH hX hf hl').2 hcb (fun _ => rfl)
        refine aitems_mono body fr1 H1 _ _ (fun fr1' H1' ⟨q1, q2⟩ => ⟨q1, ?_⟩) this
        have := q2 y
        rw [hr1] at this
        simp only [EV] at this
        exact this
      obtain ⟨r, k1, k2⟩ := key
      have hnew : ∀ vs, FrE m ((fr.dim dl).set d (.b (bif want then c && r1 else c || r1))) ((fr1.mix dl vs).set d (.b (if c = want then r else !want))) := fun vs =>
        (hf.dim dl vs).set' (by simp only [EV, k2])
      refine ⟨?_, fun _ _ => ?_⟩
      · simp only [aitem]
        rw [show fr1.get t = .b c from hc1]
        exact ⟨r, k1, fun vs => ⟨m, Mp.Le.refl m, hH, hX, hnew vs⟩⟩
      · simp only [aitem]
        rw [show fr1.get t = .b c from hc1]
        exact ⟨r, k1, fun vs => ⟨True.intro, hnew vs⟩⟩
theorem ritems_run (τ : Nat → Option GT) {α : Type} {x : α} : ∀ (is : List AI) (O : Orac) (fr : Fr2) (H : Hp) (oks : List Bool) (K : Fr2 → Hp → List Bool → Option α), ritems τ O is fr H oks K = some x →
    ∃ fr' H' l, K fr' H' (l ++ oks) = some x ∧ (calmIs is = true → allP O → H' = H) ∧ (OrcOk P O → ∀ (m : Mp) (fr1 : Fr) (H1 : AH), EH m H H1 → EX H0 In m H1 → FrE m fr fr1 → (∀ ok ∈ l, ok = true) →
      (aitems (env P) is fr1 H1 (QAfter H0 In m fr' H')) ∧ (calmIs is = true → allP O → aitems (env P) is fr1 H1 fun fr1' H1' => H1' = H1 ∧ FrE m fr' fr1'))
  | [], O, fr, H, oks, K, h => by
    simp only [ritems] at h
    refine ⟨fr, H, [], h, fun _ _ => rfl, fun hO m fr1 H1 hH hX hf hl => ⟨?_, fun _ _ => ?_⟩⟩
    · simp only [aitems]; exact ⟨m, Mp.Le.refl m, hH, hX, hf⟩
    · simp only [aitems]; exact ⟨True.intro, hf⟩
  | i :: r, O, fr, H, oks, K, h => by
    simp only [ritems] at h
    obtain ⟨fra, Ha, la, ha, ca, sa⟩ := ritem_run τ i O fr H oks _ h
    obtain ⟨frb, Hb, lb, hb, cb, sb⟩ := ritems_run τ r O fra Ha (la ++ oks) K ha
    refine ⟨frb, Hb, lb ++ la, by rw [List.append_assoc]; exact hb, fun hc hp => ?_, fun hO m fr1 H1 hH hX hf hl => ⟨?_, fun hc hp => ?_⟩⟩
    · simp only [calmIs, Bool.and_eq_true] at hc
      exact (cb hc.2 hp).trans (ca hc.1 hp)
    · simp only [aitems]
      refine aitem_mono i fr1 H1 _ _ (fun fr1' H1' ⟨m', q1, q2, q3, q4⟩ => ?_) (sa hO m fr1 H1 hH hX hf fun ok hok => hl ok (List.mem_append_right _ hok)).1
      refine aitems_mono r fr1' H1' _ _ (fun fr2 H2 ⟨m2, p1, p2, p3, p4⟩ => ⟨m2, q1.trans p1, p2, p3, p4⟩) (sb hO m' fr1' H1' q2 q3 q4 fun ok hok => hl ok (List.mem_append_left _ hok)).1
    · simp only [calmIs, Bool.and_eq_true] at hc
      have e1 := ca hc.1 hp
      simp only [aitems]
      refine aitem_mono i fr1 _ _ _ (fun fr1' H1' ⟨q1, q2⟩ => ?_) ((sa hO m fr1 H1 hH hX hf fun ok hok => hl ok (List.mem_append_right _ hok)).2 hc.1 hp)
      subst q1
      exact (sb hO m fr1' _ (by rw [e1]; exact hH) hX q2 fun ok hok => hl ok (List.mem_append_left _ hok)).2 hc.2 hp
end

/-! ### Memories put in order -/
/-- Numbers of blocks, each once. -/
def Fine (H : Hp) (l : List Nat) : Prop := l.Nodup ∧ ∀ id ∈ l, id ≠ 0 ∧ H.get id ≠ .dead
theorem Fine.snoc {l : List Nat} (h : Fine H l) {id : Nat} (h1 : (Nat.beq id 0 || memN id l) = false) (h2 : H.get id ≠ .dead) : Fine H (l ++ [id]) := by
  simp only [Bool.or_eq_false_iff] at h1
  have hn : id ∉ l := fun hm => by rw [memN_iff.2 hm] at h1; cases h1.2
  have hz : id ≠ 0 := fun e => by rw [e] at h1; cases h1.1
  refine ⟨?_, ?_⟩
  · rw [List.nodup_append]
    refine ⟨h.1, by simp, ?_⟩
    intro a ha b hb
    simp only [List.mem_singleton] at hb
    subst hb
    exact fun e => hn (e ▸ ha)
  · intro j hj
    rcases List.mem_append.1 hj with hj | hj
    · exact h.2 j hj
    · simp only [List.mem_singleton] at hj; subst hj; exact ⟨hz, h2⟩
theorem reachL_fine : ∀ (n : Nat) (todo acc : List Nat), Fine H acc → Fine H (reachL H n todo acc)
  | 0, todo, acc, h => h
  | n + 1, [], acc, h => h
  | n + 1, id :: todo, acc, h => by
    simp only [reachL]
    cases hb : (Nat.beq id 0 || memN id acc) with
    | true => exact reachL_fine n todo acc h
    | false =>
      simp only [cond_false]
      split
      · rename_i hg; exact reachL_fine n _ _ (h.snoc hb (by rw [hg]; simp))
      · rename_i hg; exact reachL_fine n _ _ (h.snoc hb (by rw [hg]; simp))
      · exact reachL_fine n todo acc h
theorem lenN_eq : ∀ l : List Nat, lenN l = l.length
  | [] => rfl
  | _ :: r => by simp only [lenN, lenN_eq r, List.length_cons]
theorem look_eq {id : Nat} : ∀ {l : List Nat} {i k : Nat}, look l i id = some k → i ≤ k ∧ l[k - i]? = some id
  | [], i, k, h => by cases h
  | x :: r, i, k, h => by
    simp only [look] at h
    cases e : Nat.beq x id with
    | true =>
      rw [e] at h
      simp only [cond_true, Option.some.injEq] at h
      subst h
      simp [Nat.eq_of_beq_eq_true e]
    | false =>
      rw [e] at h
      simp only [cond_false] at h
      obtain ⟨h1, h2⟩ := look_eq h
      refine ⟨by omega, ?_⟩
      rw [show k - i = (k - (i + 1)) + 1 by omega]
      simpa using h2
def Mp.ren (m : Mp) (l : List Nat) : Mp := ⟨fun i => if i = 0 then 0 else m.φ (l.getD (i - 1) 0), fun i => if i = 0 then 0 else m.ln (l.getD (i - 1) 0), l.length + 1⟩
theorem Mp.ren_at {l : List Nat} {k id : Nat} (h1 : 1 ≤ k) (h : l[k - 1]? = some id) : k < (m.ren l).nx ∧ (m.ren l).φ k = m.φ id ∧ (m.ren l).ln k = m.ln id := by
  have hlt := (List.getElem?_eq_some_iff.1 h).1
  have hg : l.getD (k - 1) 0 = id := by rw [List.getD_eq_getElem?_getD, h]; rfl
  simp only [Mp.ren]
  rw [if_neg (by omega), if_neg (by omega), hg]
  exact ⟨by omega, rfl, rfl⟩
mutual
theorem renV_ev {l : List Nat} (hz : m.φ 0 = 0) (hl0 : m.ln 0 = 0) : ∀ (v : V) (a : AV), EV m v a → EV (m.ren l) (renV l v) a
  | .p id i j, a, h => by
    simp only [renV]
    split
    · rename_i k hk
      obtain ⟨h1, h2⟩ := look_eq hk
      obtain ⟨q1, q2, q3⟩ := Mp.ren_at (m := m) h1 h2
      simp only [EV] at h ⊢
      rw [q2, q3]
      exact ⟨⟨q1, h.1.2⟩, h.2⟩
    · simp only [EV]
  | .l id lo n, a, h => by
    simp only [renV]
    cases e : Nat.beq id 0 with
    | true =>
      have := Nat.eq_of_beq_eq_true e
      subst this
      simp only [cond_true]
      simp only [EV] at h ⊢
      have e1 : (m.ren l).φ 0 = 0 := by simp [Mp.ren]
      have e2 : (m.ren l).ln 0 = 0 := by simp [Mp.ren]
      rw [e1, e2]
      rw [hz, hl0] at h
      exact ⟨⟨by simp [Mp.ren], h.1.2⟩, h.2⟩
    | false =>
      simp only [cond_false]
      split
      · rename_i k hk
        obtain ⟨h1, h2⟩ := look_eq hk
        obtain ⟨q1, q2, q3⟩ := Mp.ren_at (m := m) h1 h2
        simp only [EV] at h ⊢
        rw [q2, q3]
        exact ⟨⟨q1, h.1.2⟩, h.2⟩
      · simp only [EV]
  | .w id, a, h => by
    simp only [renV]
    split
    · rename_i k hk
      obtain ⟨h1, h2⟩ := look_eq hk
      obtain ⟨q1, q2, q3⟩ := Mp.ren_at (m := m) h1 h2
      simp only [EV] at h ⊢
      rw [q2, q3]
      exact ⟨q1, h.2⟩
    · simp only [EV]
  | .a cs, a, h => by
    simp only [renV, EV] at h ⊢
    obtain ⟨cs', e, h⟩ := h
    exact ⟨cs', e, renVs_ev hz hl0 _ _ h⟩
  | .t cs, a, h => by
    simp only [renV, EV] at h ⊢
    obtain ⟨cs', e, h⟩ := h
    exact ⟨cs', e, renVs_ev hz hl0 _ _ h⟩
  | .f g cs, a, h => by
    simp only [renV, EV] at h ⊢
    obtain ⟨cs', e, h⟩ := h
    exact ⟨cs', e, renVs_ev hz hl0 _ _ h⟩
  | .e ty v, a, h => by
    simp only [renV, EV] at h ⊢
    obtain ⟨v', e, h⟩ := h
    exact ⟨v', e, renV_ev hz hl0 _ _ h⟩
  | .b _, _, h => by simpa only [renV, EV] using h
  | .n .., _, h => by simpa only [renV, EV] using h
  | .s _, _, h => by simpa only [renV, EV] using h
  | .pn, _, h => by simpa only [renV, EV] using h
  | .q .., _, h => by simpa only [renV, EV] using h
  | .pq .., _, h => by simpa only [renV, EV] using h
  | .en, _, h => by simpa only [renV, EV] using h
  | .ps _, _, h => by simpa only [renV, EV] using h
  | .pps _ _, _, h => by simp only [EV] at h
  | .u, _, _ => by simp only [renV, EV]
theorem renVs_ev {l : List Nat} (hz : m.φ 0 = 0) (hl0 : m.ln 0 = 0) : ∀ (vs : List V) (as : List AV), EVs m vs as → EVs (m.ren l) (renVs l vs) as
  | [], as, h => by rw [h.inv0]; simp only [renVs, EVs]
  | v :: r, as, h => by
    obtain ⟨a, q, rfl, h1, h2⟩ := h.inv
    simp only [renVs]
    exact EVs.cons (renV_ev hz hl0 _ _ h1) (renVs_ev hz hl0 _ _ h2)
end
theorem renR_ev {l : List Nat} (hz : m.φ 0 = 0) (hl0 : m.ln 0 = 0) : ∀ (vs : List (List V)) (as : List (List AV)), EVss m vs as → EVss (m.ren l) (renR l vs) as
  | [], as, h => by rw [h.inv0]; simp only [renR, EVss]
  | v :: r, as, h => by
    obtain ⟨a, q, rfl, h1, h2⟩ := h.inv
    simp only [renR]
    exact EVss.cons (renVs_ev hz hl0 _ _ h1) (renR_ev hz hl0 _ _ h2)
theorem getL_ren {l0 : List Nat} : ∀ (l : List Nat) (i id : Nat), Hp.getL (renH l0 H i l) id = if i ≤ id ∧ id < i + l.length then renB l0 (H.get (l.getD (id - i) 0)) else .dead
  | [], i, id => by
    simp only [renH, Hp.getL, List.length_nil]
    rw [if_neg (by omega)]
  | x :: r, i, id => by
    simp only [renH, Hp.getL, List.length_cons]
    cases e : Nat.beq i id with
    | true =>
      have := Nat.eq_of_beq_eq_true e
      subst this
      simp only [cond_true]
      rw [if_pos (by omega)]; simp
    | false =>
      simp only [cond_false]
      have hne : i ≠ id := fun e2 => by rw [e2] at e; simp at e
      rw [getL_ren r (i + 1) id]
      by_cases h : i + 1 ≤ id ∧ id < i + 1 + r.length
      · rw [if_pos h, if_pos (by omega)]
        congr 2
        rw [show id - i = (id - (i + 1)) + 1 by omega]
        simp
      · rw [if_neg h, if_neg (by omega)]
theorem evs_typed (m' : Mp) {T : GT} : ∀ {xs : List T.den} {rows : List (List AV)}, EVss m (xs.map (cells T)) rows → EVss m' (xs.map (cells T)) rows
  | [], rows, h => by simp only [List.map_nil] at h ⊢; rw [h.inv0]; simp only [EVss]
  | x :: r, rows, h => by
    simp only [List.map_cons] at h ⊢
    obtain ⟨a, q, rfl, h1, h2⟩ := h.inv
    refine EVss.cons ?_ (evs_typed m' h2)
    exact cells_any m' T x a h1
theorem fine_ren (h : EH m H H1) {l : List Nat} (hl : Fine H l) : EH (m.ren l) ⟨lenN l + 1, renH l H 1 l⟩ H1 := by
  have hat : ∀ i, i ≠ 0 → i < l.length + 1 → ∃ id, l[i - 1]? = some id ∧ id ∈ l := fun i h0 hi =>
    ⟨l[i - 1]'(by omega), List.getElem?_eq_getElem (by omega), List.getElem_mem _⟩
  refine ⟨?_, ?_, ?_, ?_, ?_, h.nil, ?_, ?_, ?_⟩
  · simp only [Mp.ren, lenN_eq]
  · simp only [Mp.ren]; omega
  · simp [Mp.ren]
  · simp [Mp.ren]
  · simp only [Hp.get]; rw [getL_ren, if_neg (by omega)]
  · intro i j hi hj e
    simp only [Mp.ren] at hi hj
    by_cases hi0 : i = 0
    · subst hi0
      right
      simp [Mp.ren]
    · by_cases hj0 : j = 0
      · subst hj0
        right
        rw [e]; simp [Mp.ren]
      · obtain ⟨a, ha, hma⟩ := hat i hi0 hi
        obtain ⟨b, hb, hmb⟩ := hat j hj0 hj
        obtain ⟨_, q2, _⟩ := Mp.ren_at (m := m) (by omega) ha
        obtain ⟨_, p2, _⟩ := Mp.ren_at (m := m) (by omega) hb
        rw [q2, p2] at e
        rw [q2]
        rcases h.inj a b (h.blk a (hl.2 a hma).2).1 (h.blk b (hl.2 b hmb).2).1 e with h1 | h1
        · left
          subst h1
          have e1 := (List.getElem?_eq_some_iff.1 ha)
          have e2 := (List.getElem?_eq_some_iff.1 hb)
          obtain ⟨x1, y1⟩ := e1
          obtain ⟨x2, y2⟩ := e2
          have hp := List.pairwise_iff_getElem.1 hl.1
          rcases Nat.lt_trichotomy (i - 1) (j - 1) with h5 | h5 | h5
          · exact absurd (y1.trans y2.symm) (hp _ _ x1 x2 h5)
          · omega
          · exact absurd (y2.trans y1.symm) (hp _ _ x2 x1 h5)
        · exact .inr h1
  · intro i hi
    by_cases hi0 : i = 0
    · subst hi0
      have h1 := h.bd 0 h.pos
      simp only [Mp.ren, if_true]; omega
    · simp only [Mp.ren] at hi
      obtain ⟨a, ha, hma⟩ := hat i hi0 hi
      obtain ⟨_, q2, _⟩ := Mp.ren_at (m := m) (by omega) ha
      rw [q2]
      exact h.bd a (h.blk a (hl.2 a hma).2).1
  · intro i hi
    simp only [Hp.get] at hi ⊢
    rw [getL_ren] at hi ⊢
    split at hi
    case isFalse => exact absurd rfl hi
    rename_i hr
    rw [if_pos hr]
    obtain ⟨a, ha, hma⟩ := hat i (by omega) (by omega)
    have hg : l.getD (i - 1) 0 = a := by rw [List.getD_eq_getElem?_getD, ha]; rfl
    rw [hg]
    obtain ⟨q1, q2, q3⟩ := Mp.ren_at (m := m) (by omega) ha
    obtain ⟨a1, B, a2, a3, a4, a5⟩ := h.blk a (hl.2 a hma).2
    refine ⟨q1, B, by rw [q2]; exact a2, ?_, a4, by rw [q3]; exact a5⟩
    cases hB : H.get a with
    | dead => exact absurd hB (hl.2 a hma).2
    | un k rows =>
      rw [hB] at a3
      exact ⟨a3.1, renR_ev h.z h.zl _ _ a3.2⟩
    | ty T xs =>
      rw [hB] at a3
      exact ⟨a3.1.imp (fun e => by rw [q2]; exact e) (fun e => e), evs_typed _ a3.2⟩
theorem pickF_ev {l : List Nat} (h : EH m H H1) (hf : FrE m fr fr1) : ∀ live : List Nat, FrE (m.ren l) (pickF l fr live) fr1
  | [], t => by simp only [pickF, Fr2.get, EV]
  | d :: r, t => by
    simp only [pickF, Fr2.get]
    cases e : Nat.beq d t with
    | true =>
      have := Nat.eq_of_beq_eq_true e
      subst this
      simp only [cond_true]
      exact renV_ev h.z h.zl _ _ (hf d)
    | false => simp only [cond_false]; exact pickF_ev h hf r t
theorem tidy_run {β : Type} {y : β} {live : List Nat} {K : Fr2 → Hp → β} (ht : tidy live fr H K = y) (h : EH m H H1) (hX : EX H0 In m H1) (hf : FrE m fr fr1) :
    ∃ fr' H' m', K fr' H' = y ∧ EH m' H' H1 ∧ EX H0 In m' H1 ∧ FrE m' fr' fr1 := by
  simp only [tidy] at ht
  have hl : Fine H (reachL H 64 (liveIds fr live) []) := reachL_fine 64 _ [] ⟨List.nodup_nil, by simp⟩
  refine ⟨_, _, m.ren _, ht, fine_ren h hl, ⟨hX.nx, hX.out, ?_⟩, pickF_ev h hf live⟩
  intro i hi
  by_cases hi0 : i = 0
  · subst hi0; right; right; simp [Mp.ren]
  · simp only [Mp.ren] at hi
    have ha : (reachL H 64 (liveIds fr live) [])[i - 1]? = some ((reachL H 64 (liveIds fr live) [])[i - 1]'(by omega)) := List.getElem?_eq_getElem (by omega)
    obtain ⟨_, q2, _⟩ := Mp.ren_at (m := m) (by omega) ha
    rw [q2]
    exact hX.new _ (h.blk _ (hl.2 _ (List.getElem_mem _)).2).1
theorem get_putPush {B C : Blk2} {id j : Nat} : ((H.put id B).push C).get j = if j = H.nx then C else if j = id then B else H.get j := by
  have h1 := get_push2 (H := H.put id B) (B := C) (id := j)
  rw [get_put2] at h1
  exact h1
theorem nth_lt {l : List V} {j : Nat} (h : nth l j ≠ .u) : j < l.length := by
  rcases Nat.lt_or_ge j l.length with hj | hj
  · exact hj
  · exfalso
    have : ∀ (l : List V) (i : Nat), l.length ≤ i → nth l i = .u := by
      intro l
      induction l with
      | nil => intro i _; rfl
      | cons v r ih =>
        intro i hi
        cases i with
        | zero => simp at hi
        | succ i => simp only [nth]; exact ih i (by simpa using hi)
    exact h (this l j hj)
/-- A cell's value told otherwise. -/
theorem EH.swap (h : EH m H H1) {id k i j : Nat} {rows : List (List V)} {row : List V} (hB : H.get id = .un k rows) (hrow : rows[i]? = some row) (hj : nth row j ≠ .u) {v : V} (hv : ∀ a, EV m (nth row j) a → EV m v a) :
    EH m (H.put id (.un k (rows.set i (putV row j [v])))) H1 := by
  obtain ⟨a1, B, a2, a3, a4, a5⟩ := h.blk id (by rw [hB]; simp)
  rw [hB] at a3
  obtain ⟨row1, hr1, hre⟩ := a3.2.get hrow
  obtain ⟨c, hc, hce⟩ := hre.nth (nth_lt hj)
  have hnz : id ≠ 0 := fun e => by rw [e, h.zd] at hB; cases hB
  refine ⟨h.nx, h.pos, h.z, h.zl, ?_, h.nil, h.inj, h.bd, ?_⟩
  · rw [get_put2, if_neg (Ne.symm hnz)]; exact h.zd
  · intro id2 hid2
    rw [get_put2] at hid2 ⊢
    split at hid2
    · rename_i e2
      subst e2
      rw [if_pos rfl]
      refine ⟨a1, B, a2, ⟨a3.1, ?_⟩, a4, a5⟩
      have hput1 : putAt row1 j [c] = row1 := by
        have hlt := (List.getElem?_eq_some_iff.1 hc).1
        have hcc := (List.getElem?_eq_some_iff.1 hc).2
        simp only [putAt, List.length_singleton]
        rw [← hcc, List.append_assoc, List.singleton_append, ← List.drop_eq_getElem_cons hlt, List.take_append_drop]
      have hset : B.rows.set i row1 = B.rows := by
        have hlt := (List.getElem?_eq_some_iff.1 hr1).1
        have hcc := (List.getElem?_eq_some_iff.1 hr1).2
        rw [← hcc]
        exact List.set_getElem_self hlt
      have h5 := a3.2.set i (putV_ev (off := j) hre (vs := [v]) (av := [c]) (EVs.cons (hv c hce) EVs.nil))
      rw [hput1, hset] at h5
      exact h5
    · rename_i e2
      rw [if_neg e2]
      exact h.blk id2 hid2
theorem whole_part (h : EH m H H1) {id : Nat} {T : GT} {xs : List T.den} (hB : H.get id = .ty T xs) {a : AV} (he : EV m (.w id) a) : EV m (.l id 0 xs.length) a := by
  obtain ⟨a1, B, a2, a3, a4, a5⟩ := h.blk id (by rw [hB]; simp)
  rw [hB] at a3
  have hl := a3.2.length
  simp only [List.length_map] at hl
  simp only [EV] at he ⊢
  exact ⟨⟨he.1, by omega⟩, by rw [he.2]; rw [show m.ln id = xs.length by omega]⟩
theorem nil1_run {a : NA} (h : EH m H H1) (hX : EX H0 In m H1) (hf : FrE m fr fr1) : ∃ m', EH m' (nil1 fr H a).2 H1 ∧ EX H0 In m' H1 ∧ FrE m' (nil1 fr H a).1 fr1 := by
  cases a with
  | slot t T =>
    simp only [nil1]
    split
    · rename_i id lo n hg
      cases e : Nat.beq id 0 with
      | false => exact ⟨m, h, hX, hf⟩
      | true =>
        have := Nat.eq_of_beq_eq_true e
        subst this
        simp only [cond_true]
        have he := hf t
        rw [hg] at he
        refine ⟨m.add 0 0, h.pushNil, hX.pushNil, ?_⟩
        have := (hf.mono (Mp.le_add (b := 0) (len := 0))).set (d := some t) (v := .w H.nx) (a := fr1 t) (by
          simp only [EV] at he ⊢
          have hz := h.z
          have hzl := h.zl
          obtain ⟨⟨_, h2⟩, h3⟩ := he
          rw [hz] at h3
          rw [hzl] at h2
          have e1 : lo = 0 := by omega
          have e2 : n = 0 := by omega
          subst e1; subst e2
          rw [h.nx, h3]
          simp [Mp.add])
        have e4 : fr1.setO (some t) (fr1 t) = fr1 := by
          funext k
          simp only [Fr.setO, Fr.set]
          split
          · rename_i e; rw [e]
          · rfl
        rw [e4] at this
        exact this
    · exact ⟨m, h, hX, hf⟩
  | cell t j T =>
    simp only [nil1]
    split
    · rename_i id i j' hg
      split
      · rename_i k rows hB
        split
        · rename_i row hrow
          split
          · rename_i id' lo n hn
            cases e : Nat.beq id' 0 with
            | false => exact ⟨m, h, hX, hf⟩
            | true =>
              have := Nat.eq_of_beq_eq_true e
              subst this
              simp only [cond_true]
              have hnn := h.pushNil (T := T)
              have he := hf t
              rw [hg] at he
              simp only [EV] at he
              obtain ⟨a1, B, a2, a3, a4, a5⟩ := h.blk id (by rw [hB]; simp)
              rw [hB] at a3
              obtain ⟨row1, hr1, hre⟩ := a3.2.get hrow
              have hnz : m.φ id ≠ 0 := fun e => by have := h.ln0 (by rw [hB]; simp) e; omega
              have hjl : j < row.length := by
                rcases Nat.lt_or_ge j row.length with hj | hj
                · exact hj
                · exfalso
                  have : ∀ (l : List V) (i : Nat), l.length ≤ i → nth l i = .u := by
                    intro l
                    induction l with
                    | nil => intro i _; rfl
                    | cons v r ih =>
                      intro i hi
                      cases i with
                      | zero => simp at hi
                      | succ i => simp only [nth]; exact ih i (by simpa using hi)
                  rw [this row j hj] at hn
                  cases hn
              obtain ⟨c, hc, hce⟩ := hre.nth hjl
              rw [hn] at hce
              have hc0 : c = .l 0 0 0 := by
                simp only [EV] at hce
                have hz := h.z
                have hzl := h.zl
                obtain ⟨⟨_, h2⟩, h3⟩ := hce
                rw [hz] at h3
                rw [hzl] at h2
                have e1 : lo = 0 := by omega
                have e2 : n = 0 := by omega
                subst e1; subst e2
                exact h3
              refine ⟨m.add 0 0, ?_, hX.pushNil, hf.mono Mp.le_add⟩
              have hle : m.Le (m.add 0 0) := Mp.le_add
              have hnx : id ≠ H.nx := by rw [h.nx]; omega
              refine ⟨hnn.nx, hnn.pos, hnn.z, hnn.zl, ?_, hnn.nil, hnn.inj, hnn.bd, ?_⟩
              · rw [get_push2, if_neg (by simp only [Hp.put]; rw [h.nx]; have := h.pos; omega), get_put2, if_neg (fun e => hnz (by rw [← e]; exact h.z))]; exact h.zd
              · intro id2 hid2
                have hput : ((H.put id (.un k (rows.set i (putV row j [.w H.nx])))).push (.ty T [])).get id2 = if id2 = id then .un k (rows.set i (putV row j [.w H.nx])) else (H.push (.ty T [])).get id2 := by
                  rw [get_putPush, get_push2]
                  by_cases e1 : id2 = H.nx
                  · rw [if_pos e1, if_pos e1, if_neg (by omega)]
                  · rw [if_neg e1, if_neg e1]
                rw [hput] at hid2 ⊢
                split at hid2
                · rename_i e2
                  subst e2
                  rw [if_pos rfl]
                  refine ⟨Nat.lt_succ_of_lt a1, B, by rw [hle.φ _ a1]; exact a2, ⟨a3.1, ?_⟩, a4, by rw [hle.ln _ a1]; exact a5⟩
                  have hput1 : putAt row1 j [c] = row1 := by
                    have hlt := (List.getElem?_eq_some_iff.1 hc).1
                    have hcc := (List.getElem?_eq_some_iff.1 hc).2
                    simp only [putAt, List.length_singleton]
                    rw [← hcc, List.append_assoc, List.singleton_append, ← List.drop_eq_getElem_cons hlt, List.take_append_drop]
                  have hset : B.rows.set i row1 = B.rows := by
                    have hlt := (List.getElem?_eq_some_iff.1 hr1).1
                    have hcc := (List.getElem?_eq_some_iff.1 hr1).2
                    rw [← hcc]
                    exact List.set_getElem_self hlt
                  have h5 := (EVss.mono hle _ _ a3.2).set i (putV_ev (off := j) (EVs.mono hle _ _ hre) (vs := [.w H.nx]) (av := [c]) (EVs.cons (by
                    rw [hc0]
                    simp only [EV]
                    rw [h.nx]
                    simp [Mp.add]) EVs.nil))
                  rw [hput1, hset] at h5
                  exact h5
                · rename_i e2
                  rw [if_neg e2]
                  exact hnn.blk id2 hid2
          · exact ⟨m, h, hX, hf⟩
        · exact ⟨m, h, hX, hf⟩
      · exact ⟨m, h, hX, hf⟩
    · exact ⟨m, h, hX, hf⟩
  | part t =>
    simp only [nil1]
    split
    · rename_i id hg
      split
      · rename_i T xs hB
        refine ⟨m, h, hX, ?_⟩
        have he := hf t
        rw [hg] at he
        have := hf.set (d := some t) (v := .l id 0 xs.length) (a := fr1 t) (whole_part h hB he)
        have e4 : fr1.setO (some t) (fr1 t) = fr1 := by
          funext k
          simp only [Fr.setO, Fr.set]
          split
          · rename_i e; rw [e]
          · rfl
        rw [e4] at this
        exact this
      · exact ⟨m, h, hX, hf⟩
    · exact ⟨m, h, hX, hf⟩
  | partc t j =>
    simp only [nil1]
    split
    · rename_i id i j' hg
      split
      · rename_i k rows hB
        split
        · rename_i row hrow
          split
          · rename_i id' hn
            split
            · rename_i T xs hB'
              refine ⟨m, h.swap hB hrow (by rw [hn]; simp) (fun a ha => ?_), hX, hf⟩
              rw [hn] at ha
              exact whole_part h hB' ha
            · exact ⟨m, h, hX, hf⟩
          · exact ⟨m, h, hX, hf⟩
        · exact ⟨m, h, hX, hf⟩
      · exact ⟨m, h, hX, hf⟩
    · exact ⟨m, h, hX, hf⟩
theorem tidyN_run {β : Type} {y : β} {live : List Nat} {K : Fr2 → Hp → β} : ∀ {nils : List NA} {fr : Fr2} {H : Hp} {m : Mp}, tidyN live nils fr H K = y → EH m H H1 → EX H0 In m H1 → FrE m fr fr1 →
    ∃ fr' H' m', K fr' H' = y ∧ EH m' H' H1 ∧ EX H0 In m' H1 ∧ FrE m' fr' fr1
  | [], fr, H, m, ht, h, hX, hf => tidy_run ht h hX hf
  | a :: r, fr, H, m, ht, h, hX, hf => by
    simp only [tidyN] at ht
    obtain ⟨m', h1, h2, h3⟩ := nil1_run (a := a) h hX hf
    exact tidyN_run ht h1 h2 h3

/-! ### Code -/
def toEx : Option Nat → Ex
  | none => .normal
  | some id => .exit id
section
variable {τ : Nat → Option GT} {α : Type} {N : Nat} {fin : Fr2 → Hp → Option α} {x : α}
/-- What follows on a state. -/
def Then (H0 : AH) (In : Nat → Prop) (r : Fr2 → Hp → Option α) (x : α) (Q : Fr → AH → Prop) : Prop :=
  ∀ fr H, r fr H = some x → ∀ m fr1 H1, EH m H H1 → EX H0 In m H1 → FrE m fr fr1 → Q fr1 H1
theorem rcode_sound (hO : OrcOk P O) : ∀ (c : C2) (fr : Fr2) (H : Hp) (K : Option Nat → Fr2 → Hp → Option α), rcode O τ N fin c fr H K = some x → c.wf = true →
    ∀ (m : Mp) (fr1 : Fr) (H1 : AH), EH m H H1 → EX H0 In m H1 → FrE m fr fr1 → ∀ Q : Ex → Fr → AH → Prop, (∀ e, Then H0 In (K e) x (Q (toEx e))) → Then H0 In fin x (Q .ret) → awp (env P) c.toA fr1 H1 Q
  | .skip, fr, H, K, h, hw, m, fr1, H1, hH, hX, hf, Q, hK, hfin => by
    simp only [C2.toA, awp]
    exact hK none fr H h m fr1 H1 hH hX hf
  | .reg k is, fr, H, K, h, hw, m, fr1, H1, hH, hX, hf, Q, hK, hfin => by
    have seq : ritems τ O is fr H [] (fun fr' H' oks => chks oks (K none fr' H')) = some x → aitems (env P) is fr1 H1 (Q .normal) := fun h => by
      obtain ⟨fr', H', l, hl, _, hs⟩ := ritems_run (H0 := H0) (In := In) (P := P) τ is O fr H [] _ h
      obtain ⟨h1, h2⟩ := chks_some hl
      have := (hs hO m fr1 H1 hH hX hf (by simpa using h1)).1
      exact aitems_mono is fr1 H1 _ _ (fun fr2 H2 ⟨m', _, q2, q3, q4⟩ => hK none fr' H' h2 m' fr2 H2 q2 q3 q4) this
    cases k with
    | reg => exact awp_reg hw (seq h)
    | dline n => exact awp_dline hw (seq h)
    | dlin a b => exact awp_dlin hw (seq h)
    | plan p gs =>
      simp only [rcode] at h
      obtain ⟨fr', H', l, hl, hs⟩ := rplan_sound (P := P) (H0 := H0) (In := In) hO τ h
      obtain ⟨h1, h2⟩ := chks_some hl
      obtain ⟨Wd, hp⟩ := hs h1 m fr1 H1 hH hX hf
      simp only [C2.toA, awp]
      exact ⟨Wd, aplan_mono p _ _ _ _ _ (fun fr2 H2 ⟨m', _, q2, q3, q4⟩ => hK none fr' H' h2 m' fr2 H2 q2 q3 q4) hp⟩
  | .seq a b, fr, H, K, h, hw, m, fr1, H1, hH, hX, hf, Q, hK, hfin => by
    simp only [rcode] at h
    simp only [C2.wf, Bool.and_eq_true] at hw
    simp only [C2.toA, awp]
    refine rcode_sound hO a fr H _ h hw.1 m fr1 H1 hH hX hf _ (fun e => ?_) (fun fr H h m fr1 H1 q1 q2 q3 => hfin fr H h m fr1 H1 q1 q2 q3)
    cases e with
    | none => exact fun fr' H' h' m' fr1' H1' q1 q2 q3 => rcode_sound hO b fr' H' K h' hw.2 m' fr1' H1' q1 q2 q3 Q hK hfin
    | some id => exact fun fr' H' h' m' fr1' H1' q1 q2 q3 => hK (some id) fr' H' h' m' fr1' H1' q1 q2 q3
  | .cond c a b, fr, H, K, h, hw, m, fr1, H1, hH, hX, hf, Q, hK, hfin => by
    simp only [rcode] at h
    simp only [C2.wf, Bool.and_eq_true] at hw
    simp only [C2.toA, awp]
    have he := ev_ev hH hf c
    split at h
    case h_2 => cases h
    rename_i b' hb
    rw [hb] at he
    simp only [EV] at he
    rw [he]
    simp only
    cases b' with
    | true => exact ⟨fun _ => rcode_sound hO a fr H K h hw.1 m fr1 H1 hH hX hf Q hK hfin, fun e => by cases e⟩
    | false => exact ⟨fun e => (by cases e), fun _ => rcode_sound hO b fr H K h hw.2 m fr1 H1 hH hX hf Q hK hfin⟩
  | .block i a, fr, H, K, h, hw, m, fr1, H1, hH, hX, hf, Q, hK, hfin => by
    simp only [rcode] at h
    simp only [C2.wf] at hw
    simp only [C2.toA, awp]
    refine rcode_sound hO a fr H _ h hw m fr1 H1 hH hX hf _ (fun e => ?_) (fun fr H h m fr1 H1 q1 q2 q3 => hfin fr H h m fr1 H1 q1 q2 q3)
    cases e with
    | none => exact hK none
    | some id =>
      intro fr' H' h' m' fr1' H1' q1 q2 q3
      simp only [blockK] at h'
      simp only [toEx, exBlock]
      cases e : Nat.beq id i with
      | true =>
        rw [e] at h'
        rw [if_pos (Nat.eq_of_beq_eq_true e)]
        exact hK none fr' H' h' m' fr1' H1' q1 q2 q3
      | false =>
        rw [e] at h'
        rw [if_neg (fun e2 => by rw [e2] at e; simp at e)]
        exact hK (some id) fr' H' h' m' fr1' H1' q1 q2 q3
  | .loop live nils out a, fr, H, K, h, hw, m, fr1, H1, hH, hX, hf, Q, hK, hfin => by
    simp only [rcode] at h
    simp only [C2.wf] at hw
    simp only [C2.toA, awp]
    obtain ⟨fr', H', m', h1, h2, h3, h4⟩ := tidyN_run h hH hX hf
    refine ⟨fun n fr1 H1 => ∃ m fr H, EH m H H1 ∧ EX H0 In m H1 ∧ FrE m fr fr1 ∧ rloop (fun fr H K => rcode O τ N fin a fr H K) live nils out K n fr H = some x, N, ⟨m', fr', H', h2, h3, h4, h1⟩, ?_⟩
    rintro n fr1 H1 ⟨m, fr, H, q1, q2, q3, q4⟩
    cases n with
    | zero => simp only [rloop, reduceCtorEq] at q4
    | succ n =>
      simp only [rloop] at q4
      refine rcode_sound hO a fr H _ q4 hw m fr1 H1 q1 q2 q3 _ (fun e => ?_) (fun fr H h m fr1 H1 q1 q2 q3 => hfin fr H h m fr1 H1 q1 q2 q3)
      cases e with
      | none =>
        intro fr' H' h' m' fr1' H1' p1 p2 p3
        simp only [roundK] at h'
        obtain ⟨fr2, H2, m2, r1, r2, r3, r4⟩ := tidyN_run h' p1 p2 p3
        exact ⟨n, Nat.lt_succ_self n, m2, fr2, H2, r2, r3, r4, r1⟩
      | some id =>
        intro fr' H' h' m' fr1' H1' p1 p2 p3
        simp only [roundK] at h'
        obtain ⟨fr2, H2, m2, r1, r2, r3, r4⟩ := tidyN_run h' p1 p2 p3
        exact hK (some id) fr2 H2 r1 m2 fr1' H1' r2 r3 r4
  | .norm live nils a, fr, H, K, h, hw, m, fr1, H1, hH, hX, hf, Q, hK, hfin => by
    simp only [rcode] at h
    simp only [C2.wf] at hw
    simp only [C2.toA]
    refine rcode_sound hO a fr H _ h hw m fr1 H1 hH hX hf Q (fun e => ?_) hfin
    intro fr' H' h' m' fr1' H1' p1 p2 p3
    simp only [normK, atJ_eq] at h'
    obtain ⟨fr2, H2, m2, r1, r2, r3, r4⟩ := tidyN_run h' p1 p2 p3
    exact hK e fr2 H2 r1 m2 fr1' H1' r2 r3 r4
  | .exit id, fr, H, K, h, hw, m, fr1, H1, hH, hX, hf, Q, hK, hfin => by
    simp only [C2.toA, awp]
    exact hK (some id) fr H h m fr1 H1 hH hX hf
  | .ret, fr, H, K, h, hw, m, fr1, H1, hH, hX, hf, Q, hK, hfin => by
    simp only [C2.toA, awp]
    exact hfin fr H h m fr1 H1 hH hX hf
end
end
end Go.Proofs.Ytamnlngihccgiaa.AM
