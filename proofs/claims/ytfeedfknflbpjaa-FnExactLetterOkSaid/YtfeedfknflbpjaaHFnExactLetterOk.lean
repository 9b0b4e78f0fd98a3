/- What the functions that the law FnExactLetterOk reaches yield, in plain Lean. -/
import Derived.Test.YtfeedfknflbpjaaGFnExactLetterOk
namespace Go.Proofs.Ytfeedfknflbpjaa.AM
set_option linter.all false
open Go
set_option linter.unusedVariables false
set_option linter.unusedSimpArgs false

theorem indexByte_mem (l : List UInt8) (c : UInt8) : 0 ≤ Lib.indexByte l c ↔ c ∈ l := by
  induction l with
  | nil => simp [Lib.indexByte]
  | cons b l ih =>
    have := Lib.indexByte_ge l c
    simp only [Lib.indexByte, List.mem_cons]
    by_cases hb : b = c
    · subst hb; simp
    · have h1 : (b == c) = false := by simp [hb]
      have h2 : ¬ c = b := fun h => hb h.symm
      rw [h1]
      simp only [Bool.false_eq_true, if_false, beq_iff_eq, h2, false_or]
      rw [← ih]
      split <;> omega
theorem szItem_le {x : DItem} {v : Int} (h0 : -9223372036854775808 ≤ v - x.2.size) (h1 : v < 9223372036854775808) : G_laws_szItem x v = -1 ∨ 0 ≤ G_laws_szItem x v ∧ G_laws_szItem x v ≤ v := by
  simp only [G_laws_szItem]
  rw [w64_of h0 (by omega), ilt_eq]
  by_cases h : v - (x.2.size : Int) < 0
  · left; simp [h]
  · right; simp only [h, decide_false, cond_false]; omega
theorem szItemS_F {N : Nat} {xs : List DItem} {b : Int} (hx : wfL (fun x : DItem => x.2.size < 9223372036854775808) xs) (hN : 9223372036854775808 ≤ N) (hb : 0 ≤ b) (hb2 : b < 9223372036854775808) :
    ∃ v, F_laws_szItemS N xs b = some v ∧ (v = -1 ∨ 0 ≤ v ∧ v ≤ b - xs.length) := by
  have hl := hx.1
  simp only [F_laws_szItemS, F_laws_szItemSR, laws_szItemS_h1]
  rw [w64_of (by omega) (by omega), ilt_eq]
  by_cases h : b - (xs.length : Int) < 0
  · exact ⟨-1, by simp [h], .inl rfl⟩
  simp only [h, decide_false, cond_false]
  refine loop_inv (fun n (s : Int × Int) => laws_szItemS_l1 (fun ev1_1 => laws_szItemS_x1_0 N ev1_1) N xs n s.1 s.2) (fun s => ∃ i : Nat, s.2 = i ∧ i ≤ xs.length ∧ 0 ≤ s.1 ∧ s.1 ≤ b - xs.length) (fun s => xs.length - s.2.toNat)
    (fun o => ∃ v, o = some v ∧ (v = -1 ∨ 0 ≤ v ∧ v ≤ b - xs.length)) ?_ N (b - xs.length, 0) ⟨0, rfl, by omega, by omega, by omega⟩ (by simp; omega)
  rintro n ⟨v, j⟩ ⟨i, rfl, h1, h2, h3⟩
  simp only at h2 h3 ⊢
  simp only [laws_szItemS_l1, laws_szItemS_l1s, ilt_nat, inb_nat, Int.toNat_natCast, laws_szItemS_x1_0]
  by_cases hi : i < xs.length
  · simp only [hi, decide_true, cond_true, chk_true, getD_lt hi]
    have hs := hx.2 xs[i] (List.getElem_mem hi)
    rcases szItem_le (x := xs[i]) (v := v) (by omega) (by omega) with e | ⟨e1, e2⟩
    · right; rw [e]; exact ⟨-1, rfl, .inl rfl⟩
    · left
      refine ⟨(G_laws_szItem xs[i] v, ((i + 1 : Nat) : Int)), ?_, ⟨i + 1, rfl, by omega, e1, by simp only; omega⟩, by simp only [Int.toNat_natCast]; omega⟩
      rw [ilt_eq, show decide (G_laws_szItem xs[i] v < 0) = false by simp; omega, cond_false, w64_succ (by omega)]
  · right
    simp only [hi, decide_false, cond_false]
    exact ⟨v, rfl, .inr ⟨h2, h3⟩⟩
theorem toItemS_F {N : Nat} {xs : List DItem} (hl : xs.length ≤ 1048576) (hN : 9223372036854775808 ≤ N) : F_laws_toItemS N xs = some xs := by
  simp only [F_laws_toItemS, F_laws_toItemSR, laws_toItemS_h1]
  rw [chk_of (by simp only [mkOk, ile_eq, ilt_eq, Bool.and_eq_true, decide_eq_true_eq]; omega)]
  have k := loop_map xs G_laws_toItem (fun n i h => laws_toItemS_l1 (fun eh1_1 => laws_toItemS_x1_0 N eh1_1) N xs n i h) (fun h => some h) ?_ ?_ (n := N) (by omega) (hs := List.replicate ((xs.length : Int).toNat) dItem) (by simp)
  · refine k.trans ?_
    congr 1
    exact List.map_id'' (fun x => rfl) xs
  · intro n i hi hs hl2
    simp only [laws_toItemS_l1, laws_toItemS_l1s, ilt_nat, inb_nat, Int.toNat_natCast, hl2, hi, decide_true, cond_true, chk_true, getD_lt hi]
    rw [w64_succ (by omega)]
  · intro n hs
    simp only [laws_toItemS_l1, laws_toItemS_l1s, ilt_nat, Nat.lt_irrefl, decide_false, cond_false, laws_toItemS_x1_0]
theorem getB_data (s : ByteArray) (i : Nat) (h : i < s.size) : s[i]! = s.data.toList[i]'(by simpa using h) := by
  rw [getElem!_pos s i h]
  rfl
theorem l14Plain_F {N : Nat} {s : ByteArray} {b : Int} (hs : s.size < 9223372036854775808) (hN : 9223372036854775808 ≤ N) : F_spec_l14Plain N s b = some (!hasByte s 10 && ile s.size b) := by
  simp only [F_spec_l14Plain, F_spec_l14PlainR, spec_l14Plain_h1, spec_l14Plain_x1_0]
  have hlen : s.data.toList.length = s.size := by simp
  have k := loop_list s.data.toList (fun n i => spec_l14Plain_l1 (some (ile (s.size : Int) b)) N s b n i) (fun c => ieq (c.toNat : Int) 10) (some false) (some (ile (s.size : Int) b)) ?_ ?_ (n := N) (by omega)
  · refine k.trans ?_
    have e : s.data.toList.any (fun c => ieq (c.toNat : Int) 10) = hasByte s 10 := by
      rw [Bool.eq_iff_iff, List.any_eq_true, hasByte, decide_eq_true_eq, indexByte_mem]
      constructor
      · rintro ⟨c, h1, h2⟩
        rw [ieq_eq, decide_eq_true_eq] at h2
        have : c = 10 := by apply UInt8.toNat_inj.1; simpa using (by omega : c.toNat = 10)
        rwa [this] at h1
      · intro h
        exact ⟨10, h, by decide⟩
    rw [e]
    cases hasByte s 10 <;> simp
  · intro n i hi
    have hi' : i < s.size := by omega
    simp only [spec_l14Plain_l1, spec_l14Plain_l1s, ilt_nat, inb_nat, Int.toNat_natCast, hi', decide_true, cond_true, chk_true]
    rw [w64_succ (by omega), getB_data s i hi']
  · intro n
    simp only [spec_l14Plain_l1, spec_l14Plain_l1s, hlen, ilt_nat, Nat.lt_irrefl, decide_false, cond_false]
/-- What an item must be. -/
def okItem (x : DItem) : Bool := (ile 1 x.1 && ile x.1 1000) && (ile x.2.size 300 && !hasByte x.2 10)
theorem l16Item_F {N : Nat} {x : DItem} (hs : x.2.size < 9223372036854775808) (hN : 9223372036854775808 ≤ N) : F_spec_l16Item N x = some (okItem x) := by
  obtain ⟨h1, h2⟩ := PG_spec_l14Plain (l14Plain_F (s := x.2) (b := 300) hs hN)
  simp only [F_spec_l16Item, h1, h2, Bool.true_or, chk_true, okItem, G_spec_l1In]
  congr 2
  exact Bool.and_comm _ _
theorem isItem_F {N : Nat} (x : DItem) : F_impl_isItem N x = some (okItem x) := by
  have h0 : F_impl_isItemText N x.2 = some (ile x.2.size 300 && !hasByte x.2 10) := by
    simp only [F_impl_isItemText]
    rw [chk_of (by rw [Bool.or_eq_true]; left; simp only [P_strings_Contains, decide_eq_true_eq]; rfl)]
    rfl
  obtain ⟨h1, h2⟩ := PG_impl_isItemText h0
  simp only [F_impl_isItem, h1, h2, Bool.true_or, chk_true, okItem, G_impl_within]
theorem anyItem_F {N : Nat} {xs : List DItem} (hl : xs.length < 9223372036854775808) (hN : 9223372036854775808 ≤ N) : ∃ j : Int, F_slices_IndexFunc_Item_impl_isLetter_c1 N xs () = some j ∧ ile 0 j = xs.any (fun x => !okItem x) := by
  have hc : ∀ x : DItem, P_impl_isLetter_c1 N x = true ∧ G_impl_isLetter_c1 N x = !okItem x := fun x => by
    obtain ⟨h1, h2⟩ := PG_impl_isItem (isItem_F (N := N) x)
    exact PG_impl_isLetter_c1 (by simp only [F_impl_isLetter_c1, h1, h2, chk_true])
  simp only [F_slices_IndexFunc_Item_impl_isLetter_c1, F_slices_IndexFunc_Item_impl_isLetter_c1R, slices_IndexFunc_Item_impl_isLetter_c1_h1, slices_IndexFunc_Item_impl_isLetter_c1_x1_0]
  have k := loop_any xs.length (fun n i => slices_IndexFunc_Item_impl_isLetter_c1_l1 (some (-1)) N xs xs.length n i) (fun i => !okItem (xs.getD i dItem)) (fun i => some (i : Int)) (some (-1)) ?_ ?_ N 0 (by omega) (by omega)
  · rcases k with ⟨j, _, h2, h3, _, h5⟩ | ⟨h1, h2⟩
    · refine ⟨j, h5, ?_⟩
      rw [ile_eq, decide_eq_true (by omega)]
      rw [getD_lt h2] at h3
      exact (List.any_eq_true.2 ⟨xs[j], List.getElem_mem h2, h3⟩).symm
    · refine ⟨-1, h2, ?_⟩
      rw [show ile 0 (-1) = false from rfl]
      symm
      rw [List.any_eq_false]
      intro x hx
      obtain ⟨j, hj, rfl⟩ := List.getElem_of_mem hx
      have := h1 j (by omega) hj
      rw [getD_lt hj] at this
      simp [this]
  · intro n i hi
    simp only [slices_IndexFunc_Item_impl_isLetter_c1_l1, slices_IndexFunc_Item_impl_isLetter_c1_l1s, ilt_nat, inb_nat, Int.toNat_natCast, hi, decide_true, cond_true, chk_true, (hc _).1, (hc _).2]
    rw [w64_succ (by omega)]
  · intro n
    simp only [slices_IndexFunc_Item_impl_isLetter_c1_l1, slices_IndexFunc_Item_impl_isLetter_c1_l1s, ilt_nat, Nat.lt_irrefl, decide_false, cond_false]
theorem eqItem_same (x : DItem) : G_laws_eqItem x x = true := by
  simp only [G_laws_eqItem, ieq_eq]; simp
theorem eqItemS_F {N : Nat} {xs : List DItem} (hl : xs.length < 9223372036854775808) (hN : 9223372036854775808 ≤ N) : F_laws_eqItemS N xs xs = some true := by
  simp only [F_laws_eqItemS, F_laws_eqItemSR, laws_eqItemS_h1, laws_eqItemS_x1_0]
  have k := loop_list xs (fun n i => laws_eqItemS_l1 (some true) N xs xs n i) (fun x => false) (some false) (some true) ?_ ?_ (n := N) (by omega)
  · have e : ieq (xs.length : Int) (xs.length : Int) = true := by simp [ieq_eq]
    rw [e]
    have e2 : xs.any (fun x => false) = false := List.any_eq_false.2 (fun _ _ => by simp)
    rw [e2] at k
    exact k
  · intro n i hi
    simp only [laws_eqItemS_l1, laws_eqItemS_l1s, ilt_nat, inb_nat, Int.toNat_natCast, hi, decide_true, cond_true, chk_true, getD_lt hi, eqItem_same, Bool.not_true, cond_false]
    rw [w64_succ (by omega)]
  · intro n
    simp only [laws_eqItemS_l1, laws_eqItemS_l1s, ilt_nat, Nat.lt_irrefl, decide_false, cond_false]
theorem wfItem {x : DItem} (h : tItem.wf x) : x.2.size < 9223372036854775808 := h.2.1
theorem specLetter_F {N : Nat} {t fr to te p i c : Int} {xs : List DItem} {g : Bool} (hx : wfL (fun x : DItem => x.2.size < 9223372036854775808) xs) (hN : 9223372036854775808 ≤ N) :
    F_spec_LetterOk N (t, fr, to, te, p, i, xs, c, g) = some (
      (ile 0 fr && ile fr 2) && (ile 0 to && ile to 2) && !ieq fr to && (ile 1 te && ile te 1000) && (ile 0 p && ile p 40) && (ile 0 i && ile i 1000) && (ile 0 c && ile c 40) && !ilt 4 xs.length && !xs.any (fun x => !okItem x) &&
      (bif ieq t 1 then (ieq xs.length 0 && ieq c 0) && !g else bif ieq t 2 then ((ieq xs.length 0 && ieq c 0) && ieq p 0) && ieq i 0 else bif ieq t 3 then !g else bif ieq t 4 then (ieq xs.length 0 && ieq c 0) && ieq i 0 else false)) := by
  have hl := hx.1
  have key : ∀ v, spec_LetterOk_h1 N 0 t fr to te p i xs c g = v → v = bif xs.any (fun x => !okItem x) then some false else
      some (bif ieq t 1 then (ieq xs.length 0 && ieq c 0) && !g else bif ieq t 2 then ((ieq xs.length 0 && ieq c 0) && ieq p 0) && ieq i 0 else bif ieq t 3 then !g else bif ieq t 4 then (ieq xs.length 0 && ieq c 0) && ieq i 0 else false) := by
    rintro _ rfl
    simp only [spec_LetterOk_h1]
    refine loop_list xs (fun n j => spec_LetterOk_l1 (spec_LetterOk_x1_0 N t fr to te p i xs c g) N t fr to te p i xs c g n j) (fun x => !okItem x) (some false) _ ?_ ?_ (n := N) (by omega)
    · intro n j hj
      obtain ⟨h1, h2⟩ := PG_spec_l16Item (l16Item_F (x := xs[j]) (hx.2 _ (List.getElem_mem hj)) hN)
      simp only [spec_LetterOk_l1, spec_LetterOk_l1s, ilt_nat, inb_nat, Int.toNat_natCast, hj, decide_true, cond_true, chk_true, getD_lt hj, h1, h2]
      rw [w64_succ (by omega)]
    · intro n
      simp only [spec_LetterOk_l1, spec_LetterOk_l1s, ilt_nat, Nat.lt_irrefl, decide_false, cond_false, spec_LetterOk_x1_0, cond_some]
  simp only [F_spec_LetterOk, F_spec_LetterOkR]
  rw [key _ rfl]
  simp only [G_spec_l1In]
  cases ile 0 fr <;> cases ile fr 2 <;> try rfl
  cases ile 0 to <;> cases ile to 2 <;> try rfl
  cases ieq fr to <;> try rfl
  cases ile 1 te <;> cases ile te 1000 <;> try rfl
  cases ile 0 p <;> cases ile p 40 <;> try rfl
  cases ile 0 i <;> cases ile i 1000 <;> try rfl
  cases ile 0 c <;> cases ile c 40 <;> try rfl
  cases ilt 4 (xs.length : Int) <;> try rfl
  cases xs.any (fun x => !okItem x) <;> rfl
theorem implLetter_F {N : Nat} {t fr to te p i c : Int} {xs : List DItem} {g : Bool} (hl : xs.length < 9223372036854775808) (hN : 9223372036854775808 ≤ N) :
    F_impl_LetterOk N (t, fr, to, te, p, i, xs, c, g) = some (((((((((((((((G_impl_within t 1 4) && (G_impl_within fr 0 2)) && (G_impl_within to 0 2)) && (!ieq fr to)) && (G_impl_within te 1 1000)) && (G_impl_within p 0 40)) && ((((ieq t 3) || (ieq t 1)) || (ieq t 4)) || (ieq p 0))) && (G_impl_within i 0 1000)) && (((ieq t 3) || (ieq t 1)) || (ieq i 0))) && (G_impl_within c 0 40)) && ((ieq t 3) || (ieq c 0))) && (ile xs.length 4)) && ((ieq t 3) || (ieq xs.length 0))) && (!xs.any (fun x => !okItem x))) && (((ieq t 2) || (ieq t 4)) || (!g))) := by
  obtain ⟨j, hj, hb⟩ := anyItem_F (N := N) hl hN
  obtain ⟨h1, h2⟩ := PG_slices_IndexFunc_Item_impl_isLetter_c1 hj
  have hc : F_slices_ContainsFunc_Item_impl_isLetter_c1 N xs () = some (xs.any (fun x => !okItem x)) := by
    simp only [F_slices_ContainsFunc_Item_impl_isLetter_c1, h1, h2, chk_true, hb]
  obtain ⟨h3, h4⟩ := PG_slices_ContainsFunc_Item_impl_isLetter_c1 hc
  obtain ⟨h5, h6⟩ := PG_impl_isLetter (N := N) (a0 := (t, fr, to, te, p, i, xs, c, g)) (by simp only [F_impl_isLetter, h3, h4, Bool.true_or, chk_true]; rfl)
  simp only [F_impl_LetterOk, h5, h6, chk_true]
theorem letter_same {N : Nat} (x : DLetter) (hx : wfL (fun x : DItem => x.2.size < 9223372036854775808) x.2.2.2.2.2.2.1) (hN : 9223372036854775808 ≤ N) : ∃ b, F_spec_LetterOk N x = some b ∧ F_impl_LetterOk N x = some b := by
  obtain ⟨t, fr, to, te, p, i, xs, c, g⟩ := x
  refine ⟨_, specLetter_F hx hN, ?_⟩
  rw [implLetter_F hx.1 hN]
  congr 1
  generalize xs.any (fun x => !okItem x) = w
  have h0 : 0 ≤ (xs.length : Int) := by omega
  revert h0
  generalize (xs.length : Int) = len
  intro h0
  simp only [G_impl_within]
  rw [Bool.eq_iff_iff]
  by_cases t1 : t = 1
  · subst t1; cases w <;> cases g <;> simp [ile_eq, ilt_eq, ieq_eq] <;> omega
  by_cases t2 : t = 2
  · subst t2; cases w <;> cases g <;> simp [ile_eq, ilt_eq, ieq_eq] <;> omega
  by_cases t3 : t = 3
  · subst t3; cases w <;> cases g <;> simp [ile_eq, ilt_eq, ieq_eq] <;> omega
  by_cases t4 : t = 4
  · subst t4; cases w <;> cases g <;> simp [ile_eq, ilt_eq, ieq_eq] <;> omega
  cases w <;> cases g <;> simp [ile_eq, ilt_eq, ieq_eq, t1, t2, t3, t4] <;> omega
theorem law_F {N : Nat} (x : DLetter) (hw : tLetter.wf x) (hN : 9223372036854775808 ≤ N) : F_laws_FnExactLetterOk N x = some true := by
  have hx : wfL (fun x : DItem => x.2.size < 9223372036854775808) x.2.2.2.2.2.2.1 := by
    have h : wfL (fun x => tItem.wf x) x.2.2.2.2.2.2.1 := hw.2.2.2.2.2.2.1
    exact ⟨h.1, fun y hy => wfItem (h.2 y hy)⟩
  obtain ⟨v, h1, h2⟩ := szItemS_F (N := N) (b := 1048576) hx hN (by omega) (by omega)
  obtain ⟨h3, h4⟩ := PG_laws_szItemS h1
  have h5 : F_laws_szLetter N x 1048576 = some v := by
    simp only [F_laws_szLetter, h3, h4, chk_true]
    rcases h2 with rfl | ⟨h, _⟩
    · rfl
    · rw [ilt_eq, decide_eq_false (by omega)]; rfl
  obtain ⟨h6, h7⟩ := PG_laws_szLetter h5
  simp only [F_laws_FnExactLetterOk, h6, h7, chk_true]
  rcases h2 with rfl | ⟨h, hl⟩
  · rfl
  rw [ilt_eq, decide_eq_false (by omega), cond_false]
  obtain ⟨h8, h9⟩ := PG_laws_toItemS (toItemS_F (N := N) (xs := x.2.2.2.2.2.2.1) (by omega) hN)
  have h10 : F_laws_toLetter N x = some x := by simp only [F_laws_toLetter, h8, h9, chk_true]
  obtain ⟨h11, h12⟩ := PG_laws_toLetter h10
  obtain ⟨b, h13, h14⟩ := letter_same (N := N) x hx hN
  obtain ⟨h15, h16⟩ := PG_spec_LetterOk h13
  obtain ⟨h17, h18⟩ := PG_impl_LetterOk h14
  obtain ⟨h19, h20⟩ := PG_laws_eqItemS (eqItemS_F (N := N) (xs := x.2.2.2.2.2.2.1) hx.1 hN)
  have h21 : F_laws_eqLetter N x x = some true := by
    simp only [F_laws_eqLetter, h19, h20, chk_true, ieq_eq]
    simp
  obtain ⟨h22, h23⟩ := PG_laws_eqLetter h21
  simp only [h11, h12, h15, h16, h17, h18, h22, h23, chk_true]
  simp
end Go.Proofs.Ytfeedfknflbpjaa.AM
