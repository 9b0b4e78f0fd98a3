/- A law's arguments as typed data that is within bounds; and plain laws of loops. -/
import Derived.Test.YtamnlngihccgiaaRg
namespace Go.Proofs.Ytamnlngihccgiaa.AM
set_option linter.all false
open Go

def wfI (k : IntKind) (x : Int) : Prop := k.min ≤ x ∧ x ≤ k.max
def wfS (x : ByteArray) : Prop := x.size < 9223372036854775808
def wfL {α : Type} (p : α → Prop) (xs : List α) : Prop := xs.length < 9223372036854775808 ∧ ∀ x ∈ xs, p x
mutual
/-- Data within the bounds that a row tells. -/
def GT.wf : (T : GT) → T.den → Prop
  | .b, _ => True
  | .i k, x => wfI k x
  | .s, x => wfS x
  | .st fs, x => GT.wfs fs x
  | .sl t, xs => wfL (fun x => GT.wf t x) xs
  | .ps, _ => False
  | .dd, _ => False
  | .fn _ _, _ => False
  | .pt _, _ => False
def GT.wfs : (fs : List GT) → GT.dens fs → Prop
  | [], _ => True
  | t :: r, x => GT.wf t (densHd x) ∧ GT.wfs r (densTl x)
end
mutual
def GT.ct : GT → Option (List CT)
  | .b => some [.b]
  | .i k => some [.i k]
  | .s => some [.s]
  | .st fs => GT.cts fs
  | .sl t => match GT.ct t with | some c => some [.q c] | none => none
  | _ => none
def GT.cts : List GT → Option (List CT)
  | [] => some []
  | t :: r => match GT.ct t, GT.cts r with | some c, some d => some (c ++ d) | _, _ => none
end
theorem Iss.split : ∀ {cs ds : List CT} {vs : List AV}, Iss (cs ++ ds) vs → ∃ a b, vs = a ++ b ∧ Iss cs a ∧ Iss ds b
  | [], ds, vs, h => ⟨[], vs, rfl, by simp [Iss], h⟩
  | c :: cs, ds, vs, h => by
    simp only [List.cons_append, Iss] at h
    obtain ⟨v, r, rfl, h1, h2⟩ := h
    obtain ⟨a, b, rfl, h3, h4⟩ := Iss.split h2
    exact ⟨v :: a, b, rfl, by simp only [Iss]; exact ⟨v, a, rfl, h1, h3⟩, h4⟩
theorem dens_ex {t : GT} {r : List GT} (x : t.den) (y : GT.dens r) : densHd (r := r) (densMk x y) = x ∧ (r ≠ [] → densTl (densMk x y) = y) := by
  cases r with
  | nil => exact ⟨rfl, fun h => absurd rfl h⟩
  | cons u r => exact ⟨rfl, fun _ => rfl⟩
theorem rows_ex {α : Type} (f : α → List AV) (p : α → Prop) : ∀ (rows : List (List AV)), (∀ r ∈ rows, ∃ x, r = f x ∧ p x) → ∃ xs : List α, rows = xs.map f ∧ xs.length = rows.length ∧ ∀ x ∈ xs, p x
  | [], _ => ⟨[], rfl, rfl, by simp⟩
  | r :: rows, h => by
    obtain ⟨x, hx, px⟩ := h r (by simp)
    obtain ⟨xs, h1, h2, h3⟩ := rows_ex f p rows (fun r hr => h r (by simp [hr]))
    refine ⟨x :: xs, by simp [hx, ← h1], by simp [h2], ?_⟩
    intro y hy
    cases hy with
    | head => exact px
    | tail _ hy => exact h3 y hy
mutual
theorem ct_ex : ∀ (T : GT) {cs : List CT} {a : List AV}, T.ct = some cs → Iss cs a → ∃ x : T.den, a = cellsA T x ∧ T.wf x
  | .b, cs, a, h, i => by
    simp only [GT.ct, Option.some.injEq] at h; subst h
    simp only [Iss] at i
    obtain ⟨v, r, rfl, h1, rfl⟩ := i
    simp only [Is] at h1
    obtain ⟨x, rfl⟩ := h1
    exact ⟨x, by simp only [cellsA], by simp only [GT.wf]⟩
  | .i k, cs, a, h, i => by
    simp only [GT.ct, Option.some.injEq] at h; subst h
    simp only [Iss] at i
    obtain ⟨v, r, rfl, h1, rfl⟩ := i
    simp only [Is] at h1
    obtain ⟨x, rfl, hw⟩ := h1
    simp only [Lit.wf, Bool.and_eq_true, decide_eq_true_eq] at hw
    exact ⟨x, by simp only [cellsA], by simp only [GT.wf, wfI]; exact hw⟩
  | .s, cs, a, h, i => by
    simp only [GT.ct, Option.some.injEq] at h; subst h
    simp only [Iss] at i
    obtain ⟨v, r, rfl, h1, rfl⟩ := i
    simp only [Is] at h1
    obtain ⟨x, rfl, hw⟩ := h1
    exact ⟨x, by simp only [cellsA], by simp only [GT.wf, wfS]; simp only [maxLen] at hw; omega⟩
  | .st fs, cs, a, h, i => by
    simp only [GT.ct] at h
    obtain ⟨x, h1, h2⟩ := cts_ex fs h i
    exact ⟨x, by simp only [cellsA]; exact h1, by simp only [GT.wf]; exact h2⟩
  | .sl t, cs, a, h, i => by
    simp only [GT.ct] at h
    split at h <;> simp only [Option.some.injEq, reduceCtorEq] at h
    rename_i c hc
    subst h
    simp only [Iss] at i
    obtain ⟨v, r, rfl, h1, rfl⟩ := i
    simp only [Is] at h1
    obtain ⟨rows, rfl, hl, hr⟩ := h1
    obtain ⟨xs, h1, h2, h3⟩ := rows_ex (cellsA t) (fun x => t.wf x) rows (fun r hm => ct_ex t hc (hr r hm))
    refine ⟨xs, by simp only [cellsA, h1], ?_⟩
    simp only [GT.wf, wfL]
    refine ⟨?_, h3⟩
    simp only [maxLen] at hl
    rw [h2]; omega
  | .ps, _, _, h, _ => by simp [GT.ct] at h
  | .dd, _, _, h, _ => by simp [GT.ct] at h
  | .fn _ _, _, _, h, _ => by simp [GT.ct] at h
  | .pt _, _, _, h, _ => by simp [GT.ct] at h
theorem cts_ex : ∀ (fs : List GT) {cs : List CT} {a : List AV}, GT.cts fs = some cs → Iss cs a → ∃ x : GT.dens fs, a = cellssA fs x ∧ GT.wfs fs x
  | [], cs, a, h, i => by
    simp only [GT.cts, Option.some.injEq] at h; subst h
    simp only [Iss] at i; subst i
    exact ⟨(), by simp only [cellssA], by simp only [GT.wfs]⟩
  | t :: r, cs, a, h, i => by
    simp only [GT.cts] at h
    split at h <;> simp only [Option.some.injEq, reduceCtorEq] at h
    rename_i c d hc hd
    subst h
    obtain ⟨a, b, rfl, h1, h2⟩ := i.split
    obtain ⟨x, hx, wx⟩ := ct_ex t hc h1
    obtain ⟨y, hy, wy⟩ := cts_ex r hd h2
    refine ⟨densMk x y, ?_, ?_⟩
    · simp only [cellssA, (dens_ex x y).1, densTl_mk]; rw [hx, hy]
    · simp only [GT.wfs, (dens_ex x y).1, densTl_mk]; exact ⟨wx, wy⟩
end

/-! ### Loops -/
theorem w64_of {x : Int} (h1 : -9223372036854775808 ≤ x) (h2 : x < 9223372036854775808) : w64 x = x := by
  simp only [w64, IntKind.wrap, IntKind.bits, IntKind.signed]
  simp only [Bool.true_and, ge_iff_le, decide_eq_true_eq]
  omega
@[simp] theorem chk_true {α : Type} (r : Option α) : chk true r = r := rfl
theorem chk_of {α : Type} {c : Bool} (h : c = true) (r : Option α) : chk c r = r := by subst h; rfl
theorem inb_of {v : Int} {n : Nat} (h1 : 0 ≤ v) (h2 : v < n) : inb v n = true := by
  simp only [inb, ile_eq, ilt_eq, Bool.and_eq_true, decide_eq_true_eq]; exact ⟨h1, h2⟩
theorem ilt_nat (a b : Nat) : ilt (a : Int) (b : Int) = decide (a < b) := by rw [ilt_eq]; congr 1; simp only [eq_iff_iff]; omega
theorem ile_nat (a b : Nat) : ile (a : Int) (b : Int) = decide (a ≤ b) := by rw [ile_eq]; congr 1; simp only [eq_iff_iff]; omega
theorem inb_nat (a b : Nat) : inb (a : Int) b = decide (a < b) := by
  rw [inb, ilt_nat, ile_eq, decide_eq_true (by omega), Bool.true_and]
theorem w64_succ {i : Nat} (h : i + 1 < 9223372036854775808) : w64 ((i : Int) + 1) = ((i + 1 : Nat) : Int) := by rw [w64_of (by omega) (by omega)]; omega
theorem getD_lt {α : Type} {xs : List α} {i : Nat} (h : i < xs.length) (d : α) : xs.getD i d = xs[i] := by simp [List.getD, h]
/-- A loop: what holds ahead of every round, what every round does, and a number that falls. -/
theorem loop_inv {S R : Type} (f : Nat → S → Option R) (Inv : S → Prop) (μ : S → Nat) (post : Option R → Prop)
    (h : ∀ n s, Inv s → (∃ s', f (n + 1) s = f n s' ∧ Inv s' ∧ μ s' < μ s) ∨ post (f (n + 1) s)) : ∀ n s, Inv s → μ s < n → post (f n s) := by
  intro n
  induction n with
  | zero => intro s _ h2; omega
  | succ n ih =>
    intro s hi hm
    rcases h n s hi with ⟨s', e, h1, h2⟩ | hp
    · rw [e]; exact ih s' h1 (by omega)
    · exact hp
/-- A loop that looks through indices up to len for a bad one. -/
theorem loop_any {R : Type} (len : Nat) (f : Nat → Int → Option R) (bad : Nat → Bool) (o : Nat → Option R) (k : Option R)
    (h : ∀ n (i : Nat), i < len → f (n + 1) (i : Int) = bif bad i then o i else f n ((i + 1 : Nat) : Int)) (hk : ∀ n, f (n + 1) (len : Int) = k) :
    ∀ n (i : Nat), i ≤ len → len - i < n → (∃ j, i ≤ j ∧ j < len ∧ bad j = true ∧ (∀ j', i ≤ j' → j' < j → bad j' = false) ∧ f n (i : Int) = o j) ∨ ((∀ j, i ≤ j → j < len → bad j = false) ∧ f n (i : Int) = k) := by
  intro n
  induction n with
  | zero => intro i _ h2; omega
  | succ n ih =>
    intro i h1 h2
    by_cases hi : i < len
    · cases hb : bad i with
      | true => exact .inl ⟨i, Nat.le_refl _, hi, hb, fun j' h1 h2 => by omega, by rw [h n i hi, hb]; rfl⟩
      | false =>
        have he : f (n + 1) (i : Int) = f n ((i + 1 : Nat) : Int) := by rw [h n i hi, hb]; rfl
        rcases ih (i + 1) (by omega) (by omega) with ⟨j, h3, h4, h5, h6, h7⟩ | ⟨h3, h4⟩
        · refine .inl ⟨j, by omega, h4, h5, fun j' g1 g2 => ?_, by rw [he, h7]⟩
          by_cases hj : j' = i
          · rw [hj]; exact hb
          · exact h6 j' (by omega) g2
        · refine .inr ⟨fun j g1 g2 => ?_, by rw [he, h4]⟩
          by_cases hj : j = i
          · rw [hj]; exact hb
          · exact h3 j (by omega) g2
    · obtain rfl : i = len := by omega
      exact .inr ⟨fun j g1 g2 => by omega, hk n⟩
/-- The same for a list. -/
theorem loop_list {α R : Type} (xs : List α) (f : Nat → Int → Option R) (bad : α → Bool) (o k : Option R)
    (h : ∀ n (i : Nat) (hi : i < xs.length), f (n + 1) (i : Int) = bif bad xs[i] then o else f n ((i + 1 : Nat) : Int)) (hk : ∀ n, f (n + 1) (xs.length : Int) = k)
    {n : Nat} (hn : xs.length < n) : f n 0 = bif xs.any bad then o else k := by
  have key := loop_any xs.length f (fun i => if hi : i < xs.length then bad xs[i] else false) (fun _ => o) k (fun n i hi => by simp only [hi, dite_true]; exact h n i hi) hk n 0 (by omega) (by omega)
  rcases key with ⟨j, _, h2, h3, _, h5⟩ | ⟨h1, h2⟩
  · have : xs.any bad = true := by
      simp only [h2, dite_true] at h3
      exact List.any_eq_true.2 ⟨xs[j], List.getElem_mem h2, h3⟩
    rw [this]; exact h5
  · have : xs.any bad = false := by
      rw [List.any_eq_false]
      intro x hx
      obtain ⟨j, hj, rfl⟩ := List.getElem_of_mem hx
      have := h1 j (by omega) hj
      simp only [hj, dite_true] at this
      simp [this]
    rw [this]; exact h2
/-- A loop that fills a list with what comes of another's elements. -/
theorem loop_map {α β R : Type} (xs : List α) (g : α → β) (f : Nat → Int → List β → Option R) (k : List β → Option R)
    (h : ∀ n (i : Nat) (hi : i < xs.length) hs, hs.length = xs.length → f (n + 1) (i : Int) hs = f n ((i + 1 : Nat) : Int) (hs.set i (g xs[i]))) (hk : ∀ n hs, f (n + 1) (xs.length : Int) hs = k hs)
    {n : Nat} (hn : xs.length < n) {hs : List β} (hl : hs.length = xs.length) : f n 0 hs = k (xs.map g) := by
  have key : ∀ n (i : Nat) hs, i ≤ xs.length → xs.length - i < n → hs.length = xs.length → (∀ j (hj : j < xs.length), j < i → hs[j]? = some (g xs[j])) → f n (i : Int) hs = k (xs.map g) := by
    intro n
    induction n with
    | zero => intro i _ _ h2; omega
    | succ n ih =>
      intro i hs h1 h2 h3 h4
      by_cases hi : i < xs.length
      · rw [h n i hi hs h3]
        refine ih (i + 1) _ (by omega) (by omega) (by simp [h3]) ?_
        intro j hj hji
        by_cases hje : j = i
        · subst hje; simp [h3, hi]
        · rw [List.getElem?_set_ne (by omega)]; exact h4 j hj (by omega)
      · obtain rfl : i = xs.length := by omega
        rw [hk]
        congr 1
        apply List.ext_getElem?
        intro j
        by_cases hj : j < xs.length
        · rw [h4 j hj hj]; simp [hj]
        · rw [List.getElem?_eq_none (by omega), List.getElem?_eq_none (by simp; omega)]
  exact key n 0 hs (by omega) (by omega) hl (fun j _ hj => by omega)
section
variable {P : Program}
theorem Pf.of_calls {f : FuncId} (hok : okFn P f = true) {args : List AV} {cargs : List Value} {d : AV} {v : Value} (ha : ∀ (ρ : Ren) cs, VRs ρ args cs → cs = cargs) (hv : ∀ ρ : Ren, VR ρ d v)
    (h : ∀ w, Calls P f cargs.toArray w fun e w' => e = .returned v ∧ w'.heap = w.heap ∧ SameEnv w w') : Pf P f args d := by
  refine ⟨hok, fun H ρ w cs hR hcs => ?_⟩
  rw [ha ρ cs hcs]
  refine (h w).mono ?_
  rintro e w' ⟨rfl, hh, henv⟩
  exact ⟨v, ρ, d, H, rfl, ⟨rfl, rfl⟩, hv ρ, hR.heap hh, ⟨Ren.Le.refl _, Nat.le_refl _, by rw [hh]; exact Nat.le_refl _, fun b _ _ => by rw [hh], fun id B l h1 h2 h3 => .inr ⟨id, l, ⟨B, h1, h2⟩, .inl rfl, h3, rfl⟩, fun _ _ h _ => h, fun _ _ _ h => .inl h, henv⟩⟩
end
end Go.Proofs.Ytamnlngihccgiaa.AM
