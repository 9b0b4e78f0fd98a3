/- What the functions that the law FnExactHouseOk reaches yield, in plain Lean. -/
import Derived.Test.YtamnlngihccgiaaGFnExactHouseOk
namespace Go.Proofs.Ytamnlngihccgiaa.AM
set_option linter.all false
open Go

theorem indexByte_mem (l : List UInt8) (c : UInt8) : 0 ≤ Lib.indexByte l c ↔ c ∈ l := by
  induction l with
  | nil => simp [Lib.indexByte]
  | cons b l ih =>
    have := Lib.indexByte_ge l c
    simp only [Lib.indexByte, List.mem_cons]
    by_cases hb : b = c
    · subst hb; simp
    · have h1 : (b == c) = false := by simp [hb]
      have h2 : ¬ c = b := fun h => hb h.symm
      rw [h1]
      simp only [Bool.false_eq_true, if_false, beq_iff_eq, h2, false_or]
      rw [← ih]
      split <;> omega
theorem getB_data (s : ByteArray) (i : Nat) (h : i < s.size) : s[i]! = s.data.toList[i]'(by simpa using h) := by
  rw [getElem!_pos s i h]
  rfl
theorem l14Plain_F {N : Nat} {s : ByteArray} {b : Int} (hs : s.size < 9223372036854775808) (hN : 9223372036854775808 ≤ N) : F_spec_l14Plain N s b = some (!hasByte s 10 && ile s.size b) := by
  simp only [F_spec_l14Plain, F_spec_l14PlainR, spec_l14Plain_h1, spec_l14Plain_x1_0]
  have hlen : s.data.toList.length = s.size := by simp
  have k := loop_list s.data.toList (fun n i => spec_l14Plain_l1 (some (ile (s.size : Int) b)) N s b n i) (fun c => ieq (c.toNat : Int) 10) (some false) (some (ile (s.size : Int) b)) ?_ ?_ (n := N) (by omega)
  · refine k.trans ?_
    have e : s.data.toList.any (fun c => ieq (c.toNat : Int) 10) = hasByte s 10 := by
      rw [Bool.eq_iff_iff, List.any_eq_true, hasByte, decide_eq_true_eq, indexByte_mem]
      constructor
      · rintro ⟨c, h1, h2⟩
        rw [ieq_eq, decide_eq_true_eq] at h2
        have : c = 10 := by apply UInt8.toNat_inj.1; simpa using (by omega : c.toNat = 10)
        rwa [this] at h1
      · intro h
        exact ⟨10, h, by decide⟩
    rw [e]
    cases hasByte s 10 <;> simp
  · intro n i hi
    have hi' : i < s.size := by omega
    simp only [spec_l14Plain_l1, spec_l14Plain_l1s, ilt_nat, inb_nat, Int.toNat_natCast, hi', decide_true, cond_true, chk_true]
    rw [w64_succ (by omega), getB_data s i hi']
  · intro n
    simp only [spec_l14Plain_l1, spec_l14Plain_l1s, hlen, ilt_nat, Nat.lt_irrefl, decide_false, cond_false]
theorem toInt64S_F {N : Nat} {xs : List Int} (hl : xs.length ≤ 1048576) (hN : 9223372036854775808 ≤ N) : F_laws_toInt64S N xs = some xs := by
  simp only [F_laws_toInt64S, F_laws_toInt64SR, laws_toInt64S_h1]
  rw [chk_of (by simp only [mkOk, ile_eq, ilt_eq, Bool.and_eq_true, decide_eq_true_eq]; omega)]
  have k := loop_map xs (fun x => x) (fun n i h => laws_toInt64S_l1 (fun eh1_1 => laws_toInt64S_x1_0 N eh1_1) N xs n i h) (fun h => some h) ?_ ?_ (n := N) (by omega) (hs := List.replicate ((xs.length : Int).toNat) (0 : Int)) (by simp)
  · refine k.trans ?_
    congr 1
    exact List.map_id'' (fun x => rfl) xs
  · intro n i hi hs hl2
    simp only [laws_toInt64S_l1, laws_toInt64S_l1s, ilt_nat, inb_nat, Int.toNat_natCast, hl2, hi, decide_true, cond_true, chk_true, getD_lt hi]
    rw [w64_succ (by omega)]
  · intro n hs
    simp only [laws_toInt64S_l1, laws_toInt64S_l1s, ilt_nat, Nat.lt_irrefl, decide_false, cond_false, laws_toInt64S_x1_0]
theorem eqInt64S_F {N : Nat} {xs : List Int} (hl : xs.length < 9223372036854775808) (hN : 9223372036854775808 ≤ N) : F_laws_eqInt64S N xs xs = some true := by
  simp only [F_laws_eqInt64S, F_laws_eqInt64SR, laws_eqInt64S_h1, laws_eqInt64S_x1_0]
  have k := loop_list xs (fun n i => laws_eqInt64S_l1 (some true) N xs xs n i) (fun x => false) (some false) (some true) ?_ ?_ (n := N) (by omega)
  · have e : ieq (xs.length : Int) (xs.length : Int) = true := by simp [ieq_eq]
    rw [e]
    have e2 : xs.any (fun x => false) = false := List.any_eq_false.2 (fun _ _ => by simp)
    rw [e2] at k
    exact k
  · intro n i hi
    have e : ieq xs[i] xs[i] = true := by simp [ieq_eq]
    simp only [laws_eqInt64S_l1, laws_eqInt64S_l1s, ilt_nat, inb_nat, Int.toNat_natCast, hi, decide_true, cond_true, chk_true, getD_lt hi, e, Bool.not_true, cond_false]
    rw [w64_succ (by omega)]
  · intro n
    simp only [laws_eqInt64S_l1, laws_eqInt64S_l1s, ilt_nat, Nat.lt_irrefl, decide_false, cond_false]
theorem szInt64S_le {xs : List Int} {v : Int} (h0 : -9223372036854775808 ≤ v - xs.length) (h1 : v < 9223372036854775808) : G_laws_szInt64S xs v = -1 ∧ v - xs.length < 0 ∨ G_laws_szInt64S xs v = v - xs.length ∧ 0 ≤ v - xs.length := by
  simp only [G_laws_szInt64S]
  rw [w64_of h0 (by omega), ilt_eq]
  by_cases h : v - (xs.length : Int) < 0
  · left; simp [h]
  · right; rw [decide_eq_false h, cond_false]; exact ⟨rfl, by omega⟩
theorem szItem_le {x : DItem} {v : Int} (h0 : -9223372036854775808 ≤ v - x.2.size) (h1 : v < 9223372036854775808) : G_laws_szItem x v = -1 ∨ 0 ≤ G_laws_szItem x v ∧ G_laws_szItem x v ≤ v := by
  simp only [G_laws_szItem]
  rw [w64_of h0 (by omega), ilt_eq]
  by_cases h : v - (x.2.size : Int) < 0
  · left; simp [h]
  · right; simp only [h, decide_false, cond_false]; omega
theorem szItemS_F {N : Nat} {xs : List DItem} {b : Int} (hx : wfL (fun x : DItem => x.2.size < 9223372036854775808) xs) (hN : 9223372036854775808 ≤ N) (hb : 0 ≤ b) (hb2 : b < 9223372036854775808) :
    ∃ v, F_laws_szItemS N xs b = some v ∧ (v = -1 ∨ 0 ≤ v ∧ v ≤ b - xs.length) := by
  have hl := hx.1
  simp only [F_laws_szItemS, F_laws_szItemSR, laws_szItemS_h1]
  rw [w64_of (by omega) (by omega), ilt_eq]
  by_cases h : b - (xs.length : Int) < 0
  · exact ⟨-1, by simp [h], .inl rfl⟩
  simp only [h, decide_false, cond_false]
  refine loop_inv (fun n (s : Int × Int) => laws_szItemS_l1 (fun ev1_1 => laws_szItemS_x1_0 N ev1_1) N xs n s.1 s.2) (fun s => ∃ i : Nat, s.2 = i ∧ i ≤ xs.length ∧ 0 ≤ s.1 ∧ s.1 ≤ b - xs.length) (fun s => xs.length - s.2.toNat)
    (fun o => ∃ v, o = some v ∧ (v = -1 ∨ 0 ≤ v ∧ v ≤ b - xs.length)) ?_ N (b - xs.length, 0) ⟨0, rfl, by omega, by omega, by omega⟩ (by simp; omega)
  rintro n ⟨v, j⟩ ⟨i, rfl, h1, h2, h3⟩
  simp only at h2 h3 ⊢
  simp only [laws_szItemS_l1, laws_szItemS_l1s, ilt_nat, inb_nat, Int.toNat_natCast, laws_szItemS_x1_0]
  by_cases hi : i < xs.length
  · simp only [hi, decide_true, cond_true, chk_true, getD_lt hi]
    have hs := hx.2 xs[i] (List.getElem_mem hi)
    rcases szItem_le (x := xs[i]) (v := v) (by omega) (by omega) with e | ⟨e1, e2⟩
    · right; rw [e]; exact ⟨-1, rfl, .inl rfl⟩
    · left
      refine ⟨(G_laws_szItem xs[i] v, ((i + 1 : Nat) : Int)), ?_, ⟨i + 1, rfl, by omega, e1, by simp only; omega⟩, by simp only [Int.toNat_natCast]; omega⟩
      rw [ilt_eq, show decide (G_laws_szItem xs[i] v < 0) = false by simp; omega, cond_false, w64_succ (by omega)]
  · right
    simp only [hi, decide_false, cond_false]
    exact ⟨v, rfl, .inr ⟨h2, h3⟩⟩
theorem toItemS_F {N : Nat} {xs : List DItem} (hl : xs.length ≤ 1048576) (hN : 9223372036854775808 ≤ N) : F_laws_toItemS N xs = some xs := by
  simp only [F_laws_toItemS, F_laws_toItemSR, laws_toItemS_h1]
  rw [chk_of (by simp only [mkOk, ile_eq, ilt_eq, Bool.and_eq_true, decide_eq_true_eq]; omega)]
  have k := loop_map xs G_laws_toItem (fun n i h => laws_toItemS_l1 (fun eh1_1 => laws_toItemS_x1_0 N eh1_1) N xs n i h) (fun h => some h) ?_ ?_ (n := N) (by omega) (hs := List.replicate ((xs.length : Int).toNat) dItem) (by simp)
  · refine k.trans ?_
    congr 1
    exact List.map_id'' (fun x => rfl) xs
  · intro n i hi hs hl2
    simp only [laws_toItemS_l1, laws_toItemS_l1s, ilt_nat, inb_nat, Int.toNat_natCast, hl2, hi, decide_true, cond_true, chk_true, getD_lt hi]
    rw [w64_succ (by omega)]
  · intro n hs
    simp only [laws_toItemS_l1, laws_toItemS_l1s, ilt_nat, Nat.lt_irrefl, decide_false, cond_false, laws_toItemS_x1_0]
theorem eqItem_same (x : DItem) : G_laws_eqItem x x = true := by
  simp only [G_laws_eqItem, ieq_eq]; simp
theorem eqItemS_F {N : Nat} {xs : List DItem} (hl : xs.length < 9223372036854775808) (hN : 9223372036854775808 ≤ N) : F_laws_eqItemS N xs xs = some true := by
  simp only [F_laws_eqItemS, F_laws_eqItemSR, laws_eqItemS_h1, laws_eqItemS_x1_0]
  have k := loop_list xs (fun n i => laws_eqItemS_l1 (some true) N xs xs n i) (fun x => false) (some false) (some true) ?_ ?_ (n := N) (by omega)
  · have e : ieq (xs.length : Int) (xs.length : Int) = true := by simp [ieq_eq]
    rw [e]
    have e2 : xs.any (fun x => false) = false := List.any_eq_false.2 (fun _ _ => by simp)
    rw [e2] at k
    exact k
  · intro n i hi
    simp only [laws_eqItemS_l1, laws_eqItemS_l1s, ilt_nat, inb_nat, Int.toNat_natCast, hi, decide_true, cond_true, chk_true, getD_lt hi, eqItem_same, Bool.not_true, cond_false]
    rw [w64_succ (by omega)]
  · intro n
    simp only [laws_eqItemS_l1, laws_eqItemS_l1s, ilt_nat, Nat.lt_irrefl, decide_false, cond_false]
/-- What an item must be. -/
def okItem (x : DItem) : Bool := (ile 1 x.1 && ile x.1 1000) && (ile x.2.size 300 && !hasByte x.2 10)
theorem l16Item_F {N : Nat} {x : DItem} (hs : x.2.size < 9223372036854775808) (hN : 9223372036854775808 ≤ N) : F_spec_l16Item N x = some (okItem x) := by
  obtain ⟨h1, h2⟩ := PG_spec_l14Plain (l14Plain_F (s := x.2) (b := 300) hs hN)
  simp only [F_spec_l16Item, h1, h2, Bool.true_or, chk_true, okItem, G_spec_l1In]
  congr 2
  exact Bool.and_comm _ _
theorem isItem_F {N : Nat} (x : DItem) : F_impl_isItem N x = some (okItem x) := by
  have h0 : F_impl_isItemText N x.2 = some (ile x.2.size 300 && !hasByte x.2 10) := by
    simp only [F_impl_isItemText]
    rw [chk_of (by rw [Bool.or_eq_true]; left; simp only [P_strings_Contains, decide_eq_true_eq]; rfl)]
    rfl
  obtain ⟨h1, h2⟩ := PG_impl_isItemText h0
  simp only [F_impl_isItem, h1, h2, Bool.true_or, chk_true, okItem, G_impl_within]
theorem anyint64_impl_areWithin_c1_F {N : Nat} {xs : List Int} (hl : xs.length < 9223372036854775808) (hN : 9223372036854775808 ≤ N) (a b : Int) (bad : Int → Bool) (hc : ∀ x ∈ xs, G_impl_areWithin_c1 x a b = bad x) : F_slices_ContainsFunc_int64_impl_areWithin_c1 N xs (a, b) = some (xs.any bad) := by
  have key : ∃ j : Int, F_slices_IndexFunc_int64_impl_areWithin_c1 N xs (a, b) = some j ∧ ile 0 j = xs.any bad := by
    simp only [F_slices_IndexFunc_int64_impl_areWithin_c1, F_slices_IndexFunc_int64_impl_areWithin_c1R, slices_IndexFunc_int64_impl_areWithin_c1_h1, slices_IndexFunc_int64_impl_areWithin_c1_x1_0]
    have k := loop_any xs.length (fun n i => slices_IndexFunc_int64_impl_areWithin_c1_l1 (some (-1)) N xs a b xs.length n i) (fun i => if hi : i < xs.length then bad xs[i] else false) (fun i => some (i : Int)) (some (-1)) ?_ ?_ N 0 (by omega) (by omega)
    · rcases k with ⟨j, _, h2, h3, _, h5⟩ | ⟨h1, h2⟩
      · refine ⟨j, h5, ?_⟩
        rw [ile_eq, decide_eq_true (by omega)]
        simp only [h2, dite_true] at h3
        exact (List.any_eq_true.2 ⟨xs[j], List.getElem_mem h2, h3⟩).symm
      · refine ⟨-1, h2, ?_⟩
        rw [show ile 0 (-1) = false from rfl]
        symm
        rw [List.any_eq_false]
        intro x hx
        obtain ⟨j, hj, rfl⟩ := List.getElem_of_mem hx
        have := h1 j (by omega) hj
        simp only [hj, dite_true] at this
        simp [this]
    · intro n i hi
      have hb := hc xs[i] (List.getElem_mem hi)
      simp only [slices_IndexFunc_int64_impl_areWithin_c1_l1, slices_IndexFunc_int64_impl_areWithin_c1_l1s, ilt_nat, inb_nat, Int.toNat_natCast, hi, dite_true, decide_true, cond_true, chk_true, getD_lt hi, hb]
      rw [w64_succ (by omega)]
    · intro n
      simp only [slices_IndexFunc_int64_impl_areWithin_c1_l1, slices_IndexFunc_int64_impl_areWithin_c1_l1s, ilt_nat, Nat.lt_irrefl, decide_false, cond_false]
  obtain ⟨j, h1, h2⟩ := key
  obtain ⟨h3, h4⟩ := PG_slices_IndexFunc_int64_impl_areWithin_c1 h1
  simp only [F_slices_ContainsFunc_int64_impl_areWithin_c1, h3, h4, chk_true, h2]
theorem three_F {N : Nat} {xs : List Int} {a b : Int} (hl : xs.length < 9223372036854775808) (hN : 9223372036854775808 ≤ N) : F_spec_l16Three N xs a b = some (ieq xs.length 3 && !xs.any (fun x => !G_impl_within x a b)) := by
  simp only [F_spec_l16Three, F_spec_l16ThreeR, spec_l16Three_h1, spec_l16Three_x1_0]
  have k := loop_list xs (fun n i => spec_l16Three_l1 (some (ieq (xs.length : Int) 3)) N xs a b n i) (fun x => !G_impl_within x a b) (some false) (some (ieq (xs.length : Int) 3)) ?_ ?_ (n := N) (by omega)
  · refine k.trans ?_
    cases xs.any (fun x => !G_impl_within x a b) <;> simp
  · intro n i hi
    simp only [spec_l16Three_l1, spec_l16Three_l1s, ilt_nat, inb_nat, Int.toNat_natCast, hi, decide_true, cond_true, chk_true, getD_lt hi]
    rw [w64_succ (by omega)]
    rfl
  · intro n
    simp only [spec_l16Three_l1, spec_l16Three_l1s, ilt_nat, Nat.lt_irrefl, decide_false, cond_false]
theorem areWithin_F {N : Nat} {xs : List Int} {n a b : Int} (hl : xs.length < 9223372036854775808) (hN : 9223372036854775808 ≤ N) : F_impl_areWithin N xs n a b = some (ieq xs.length n && !xs.any (fun x => !G_impl_within x a b)) := by
  obtain ⟨h1, h2⟩ := PG_slices_ContainsFunc_int64_impl_areWithin_c1 (anyint64_impl_areWithin_c1_F hl hN a b (fun x => !G_impl_within x a b) (fun x _ => rfl))
  simp only [F_impl_areWithin, h1, h2, Bool.true_or, chk_true]
theorem none_any (xs : List Int) (p : Int → Bool) : (ieq xs.length 0 && !xs.any p) = ieq xs.length 0 := by
  cases xs with
  | nil => rfl
  | cons x r => rw [ieq_eq, decide_eq_false (by simp; omega)]; rfl
/-- The last term of a log that is right so far (v: the term ahead of it). -/
def lastI : Int → List DItem → Option Int
  | v, [] => some v
  | v, x :: r => bif !okItem x || ilt x.1 v then none else lastI x.1 r
/-- A log is right, and no term is above T. -/
def chainS (T : Int) : Int → List DItem → Bool
  | _, [] => true
  | v, x :: r => !((!okItem x || ilt T x.1) || ilt x.1 v) && chainS T x.1 r
theorem lastI_ge : ∀ (xs : List DItem) (v w : Int), lastI v xs = some w → v ≤ w
  | [], v, w, h => by simp only [lastI, Option.some.injEq] at h; omega
  | x :: r, v, w, h => by
    simp only [lastI] at h
    cases hb : (!okItem x || ilt x.1 v)
    · rw [hb, cond_false] at h
      have := lastI_ge r _ _ h
      rw [Bool.or_eq_false_iff, ilt_eq] at hb
      have := of_decide_eq_false hb.2
      omega
    · rw [hb] at h; cases h
theorem chain_last (T : Int) : ∀ (xs : List DItem) (v : Int), v ≤ T → chainS T v xs = (match lastI v xs with | some w => ile w T | none => false)
  | [], v, h => by simp only [chainS, lastI, ile_eq]; rw [decide_eq_true h]
  | x :: r, v, h => by
    simp only [chainS, lastI]
    cases h1 : okItem x
    · rfl
    cases h2 : ilt x.1 v
    · cases h3 : ilt T x.1
      · simp only [Bool.not_true, Bool.or_self, Bool.not_false, Bool.true_and, cond_false]
        rw [ilt_eq] at h3
        exact chain_last T r x.1 (by have := of_decide_eq_false h3; omega)
      · simp only [Bool.not_true, Bool.or_self, Bool.or_true, Bool.true_or, Bool.or_false, Bool.not_true, Bool.false_and, cond_false]
        rw [ilt_eq] at h3
        have h3 := of_decide_eq_true h3
        cases h4 : lastI x.1 r with
        | none => rfl
        | some w =>
          have := lastI_ge r _ _ h4
          simp only [ile_eq]
          rw [decide_eq_false (by omega)]
    · simp
theorem okItem_pos {x : DItem} (h : okItem x = true) : 1 ≤ x.1 := by
  simp only [okItem, Bool.and_eq_true, ile_eq, decide_eq_true_eq] at h
  omega
def pvS (xs : List DItem) (i : Nat) : Int := if i = 0 then 0 else (xs.getD (i - 1) dItem).1
theorem specLoop {N : Nat} {who T vote role votes sure : Int} {xs : List DItem} {ns ms : List Int} {dn : Bool} (k : Option Bool) (L : Int) (hx : wfL (fun x : DItem => x.2.size < 9223372036854775808) xs) (hN : 9223372036854775808 ≤ N) :
    ∀ (n i : Nat), i ≤ xs.length → xs.length - i < n → spec_KeeperOk_l1 k N L who T vote xs role votes sure ns ms dn n i = bif chainS T (pvS xs i) (xs.drop i) then k else some false := by
  have hl := hx.1
  intro n
  induction n with
  | zero => intro i _ h; omega
  | succ n ih =>
    intro i h1 h2
    have e1 : ilt 0 (i : Int) = decide (0 < i) := ilt_nat 0 i
    by_cases hi : i < xs.length
    · obtain ⟨p, g⟩ := PG_spec_l16Item (l16Item_F (x := xs[i]) (hx.2 _ (List.getElem_mem hi)) hN)
      have en : pvS xs (i + 1) = xs[i].1 := by simp only [pvS, Nat.add_sub_cancel, getD_lt hi]; simp
      have ihi := ih (i + 1) (by omega) (by omega)
      rw [en] at ihi
      rw [List.drop_eq_getElem_cons hi]
      simp only [chainS]
      by_cases h0 : 0 < i
      · have e2 : w64 ((i : Int) - 1) = ((i - 1 : Nat) : Int) := by rw [w64_of (by omega) (by omega)]; omega
        have ep : pvS xs i = (xs[i - 1]'(by omega)).1 := by simp only [pvS, getD_lt (show i - 1 < xs.length from by omega)]; rw [if_neg (by omega)]
        simp only [spec_KeeperOk_l1, spec_KeeperOk_l1s, ilt_nat, inb_nat, e1, e2, Int.toNat_natCast, hi, h0, show i - 1 < xs.length from by omega, decide_true, Bool.true_or, Bool.true_and, cond_true, chk_true, getD_lt hi, getD_lt (show i - 1 < xs.length from by omega), p, g]
        rw [w64_succ (by omega), ihi, ep]
        cases okItem xs[i] <;> cases ilt T xs[i].1 <;> cases ilt xs[i].1 (xs[i - 1]'(by omega)).1 <;> rfl
      · have ep : pvS xs i = 0 := by simp only [pvS]; rw [if_pos (by omega)]
        simp only [spec_KeeperOk_l1, spec_KeeperOk_l1s, ilt_nat, inb_nat, e1, Int.toNat_natCast, hi, h0, decide_true, decide_false, Bool.true_or, Bool.and_false, Bool.false_and, Bool.or_false, Bool.not_false, Bool.or_true, cond_true, chk_true, getD_lt hi, p, g]
        rw [w64_succ (by omega), ihi, ep]
        cases ho : okItem xs[i]
        · rfl
        · have := okItem_pos ho
          rw [ilt_eq xs[i].1 0, decide_eq_false (by omega)]
          cases ilt T xs[i].1 <;> rfl
    · obtain rfl : i = xs.length := by omega
      simp only [spec_KeeperOk_l1, spec_KeeperOk_l1s, ilt_nat, Nat.lt_irrefl, decide_false, cond_false, List.drop_length, chainS, cond_true]
theorem implLoop {N : Nat} {who T vote role votes sure : Int} {xs : List DItem} {ns ms : List Int} {dn : Bool} (k : Int → Option Bool) (L : Int) (hl : xs.length < 9223372036854775808) (hN : 9223372036854775808 ≤ N) :
    ∀ (n i : Nat) (v : Int), i ≤ xs.length → xs.length - i < n → impl_isKeeper_l1 k N L xs xs.length who T vote xs role votes sure ns ms dn n v i = (match lastI v (xs.drop i) with | some w => k w | none => some false) := by
  intro n
  induction n with
  | zero => intro i v _ h; omega
  | succ n ih =>
    intro i v h1 h2
    by_cases hi : i < xs.length
    · obtain ⟨p, g⟩ := PG_impl_isItem (isItem_F (N := N) xs[i])
      rw [List.drop_eq_getElem_cons hi]
      simp only [lastI, impl_isKeeper_l1, impl_isKeeper_l1s, ilt_nat, inb_nat, Int.toNat_natCast, hi, decide_true, cond_true, chk_true, getD_lt hi, p, g]
      cases hb : (!okItem xs[i] || ilt xs[i].1 v)
      · simp only [cond_false]
        rw [w64_succ (by omega)]
        exact ih (i + 1) _ (by omega) (by omega)
      · rfl
    · obtain rfl : i = xs.length := by omega
      simp only [impl_isKeeper_l1, impl_isKeeper_l1s, ilt_nat, Nat.lt_irrefl, decide_false, cond_false, List.drop_length, lastI]
theorem keeper_same {N : Nat} (x : DKeeper) (hx : wfL (fun x : DItem => x.2.size < 9223372036854775808) x.2.2.2.1) (h8 : x.2.2.2.2.2.2.2.1.length < 9223372036854775808) (h9 : x.2.2.2.2.2.2.2.2.1.length < 9223372036854775808) (hN : 9223372036854775808 ≤ N) : ∃ b, F_spec_KeeperOk N x = some b ∧ F_impl_isKeeper N x = some b := by
  obtain ⟨who, T, vote, xs, role, votes, sure, ns, ms, dn⟩ := x
  simp only at hx h8 h9
  have hl := hx.1
  obtain ⟨p1, g1⟩ := PG_spec_l16Three (three_F (N := N) (a := 1) (b := w64 (xs.length + 1)) h8 hN)
  obtain ⟨p2, g2⟩ := PG_spec_l16Three (three_F (N := N) (a := 0) (b := xs.length) h9 hN)
  have q1 := fun n => PG_impl_areWithin (areWithin_F (N := N) (n := n) (a := 1) (b := w64 (xs.length + 1)) h8 hN)
  have q2 := fun n => PG_impl_areWithin (areWithin_F (N := N) (n := n) (a := 0) (b := xs.length) h9 hN)
  have hT : spec_KeeperOk_x1_0 N xs.length who T vote xs role votes sure ns ms dn = some (!(dn && (((!ieq role 0) || (!ieq sure 0)) || (!ieq votes 0))) && (bif ieq role 2 then (ieq ns.length 3 && !ns.any (fun x => !G_impl_within x 1 (w64 (xs.length + 1)))) && (ieq ms.length 3 && !ms.any (fun x => !G_impl_within x 0 xs.length)) else ieq ns.length 0 && ieq ms.length 0)) := by
    simp only [spec_KeeperOk_x1_0, p1, p2, g1, g2, Bool.true_or, chk_true]
    cases (dn && (((!ieq role 0) || (!ieq sure 0)) || (!ieq votes 0))) <;> cases ieq role 2 <;> rfl
  have hI : F_impl_isKeeper N (who, T, vote, xs, role, votes, sure, ns, ms, dn) = some (match lastI 0 xs with
      | some w => ((((((((((G_impl_within who 0 2 && G_impl_within T 0 1000) && G_impl_within vote (-1) 2) && ile xs.length 40) && ile w T) && G_impl_within role 0 2) && (ieq role 0 || ile 1 T)) && G_impl_within votes 0 7) && G_impl_within sure 0 xs.length) && (bif ieq role 2 then (ieq ns.length 3 && !ns.any (fun x => !G_impl_within x 1 (w64 (xs.length + 1)))) && (ieq ms.length 3 && !ms.any (fun x => !G_impl_within x 0 xs.length)) else ieq ns.length 0 && ieq ms.length 0)) && (!dn || ((ieq role 0 && ieq sure 0) && ieq votes 0)))
      | none => false) := by
    simp only [F_impl_isKeeper, F_impl_isKeeperR, impl_isKeeper_h1, G_impl_size_Item]
    have k := implLoop (N := N) (who := who) (T := T) (vote := vote) (role := role) (votes := votes) (sure := sure) (ns := ns) (ms := ms) (dn := dn) (fun ev4_1 => impl_isKeeper_x1_0 N xs.length ev4_1 who T vote xs role votes sure ns ms dn) xs.length hl hN N 0 0 (by omega) (by omega)
    refine k.trans ?_
    rw [List.drop_zero]
    cases lastI 0 xs with
    | none => rfl
    | some w =>
      simp only [impl_isKeeper_x1_0, impl_isKeeper_x1_0R, impl_isKeeper_j1, (q1 _).1, (q1 _).2, (q2 _).1, (q2 _).2, Bool.true_or, chk_true, none_any]
      cases ieq role 2 <;> simp only [cond_true, cond_false, Bool.and_assoc]
  have hS : F_spec_KeeperOk N (who, T, vote, xs, role, votes, sure, ns, ms, dn) = some (G_spec_l1In who 0 2 && G_spec_l1In T 0 1000 && G_spec_l1In vote (-1) 2 && !ilt 40 xs.length && G_spec_l1In role 0 2 && G_spec_l1In votes 0 7 && G_spec_l1In sure 0 xs.length && !((!ieq role 0) && ieq T 0) && (chainS T 0 xs && (!(dn && (((!ieq role 0) || (!ieq sure 0)) || (!ieq votes 0))) && (bif ieq role 2 then (ieq ns.length 3 && !ns.any (fun x => !G_impl_within x 1 (w64 (xs.length + 1)))) && (ieq ms.length 3 && !ms.any (fun x => !G_impl_within x 0 xs.length)) else ieq ns.length 0 && ieq ms.length 0)))) := by
    simp only [F_spec_KeeperOk, F_spec_KeeperOkR, spec_KeeperOk_h1]
    have k := specLoop (N := N) (who := who) (T := T) (vote := vote) (role := role) (votes := votes) (sure := sure) (ns := ns) (ms := ms) (dn := dn) (spec_KeeperOk_x1_0 N xs.length who T vote xs role votes sure ns ms dn) xs.length hx hN N 0 (by omega) (by omega)
    rw [show pvS xs 0 = 0 from rfl, List.drop_zero, hT] at k
    rw [show ((0 : Nat) : Int) = 0 from rfl] at k
    rw [hT, k]
    cases G_spec_l1In who 0 2 <;> try rfl
    cases G_spec_l1In T 0 1000 <;> try rfl
    cases G_spec_l1In vote (-1) 2 <;> try rfl
    cases ilt 40 (xs.length : Int) <;> try rfl
    cases G_spec_l1In role 0 2 <;> try rfl
    cases G_spec_l1In votes 0 7 <;> try rfl
    cases G_spec_l1In sure 0 xs.length <;> try rfl
    cases ((!ieq role 0) && ieq T 0) <;> try rfl
    cases chainS T 0 xs <;> rfl
  refine ⟨_, hS, hI.trans ?_⟩
  congr 1
  simp only [show ∀ a b c, G_spec_l1In a b c = G_impl_within a b c from fun _ _ _ => rfl]
  generalize (bif ieq role 2 then (ieq ns.length 3 && !ns.any (fun x => !G_impl_within x 1 (w64 (xs.length + 1)))) && (ieq ms.length 3 && !ms.any (fun x => !G_impl_within x 0 xs.length)) else ieq ns.length 0 && ieq ms.length 0) = b1
  have e40 : ile (xs.length : Int) 40 = !ilt 40 (xs.length : Int) := by simp only [ilt, Bool.not_not]
  rw [e40]
  by_cases hT0 : 0 ≤ T
  · rw [chain_last T xs 0 hT0]
    have eT : ile 1 T = !ieq T 0 := by
      simp only [ile_eq, ieq_eq]; rw [Bool.eq_iff_iff]; simp only [Bool.not_eq_true', decide_eq_false_iff_not, decide_eq_true_eq]; omega
    cases lastI 0 xs with
    | none => simp
    | some w =>
      simp only [eT]
      cases G_impl_within who 0 2 <;> cases G_impl_within T 0 1000 <;> cases G_impl_within vote (-1) 2 <;> cases ilt 40 (xs.length : Int) <;> cases G_impl_within role 0 2 <;> cases G_impl_within votes 0 7 <;> cases G_impl_within sure 0 xs.length <;> try (simp; done)
      cases ieq role 0 <;> cases ieq T 0 <;> cases ile w T <;> cases dn <;> cases ieq sure 0 <;> cases ieq votes 0 <;> cases b1 <;> rfl
  · have eT : G_impl_within T 0 1000 = false := by simp only [G_impl_within, ile_eq]; rw [decide_eq_false (by omega)]; rfl
    rw [eT]
    cases lastI 0 xs <;> simp
theorem szKeeper_F {N : Nat} {x : DKeeper} {b : Int} (hx : wfL (fun x : DItem => x.2.size < 9223372036854775808) x.2.2.2.1) (h8 : x.2.2.2.2.2.2.2.1.length < 9223372036854775808) (h9 : x.2.2.2.2.2.2.2.2.1.length < 9223372036854775808) (hN : 9223372036854775808 ≤ N) (hb : 0 ≤ b) (hb2 : b < 9223372036854775808) :
    ∃ v, F_laws_szKeeper N x b = some v ∧ (v = -1 ∨ 0 ≤ v ∧ v ≤ b ∧ x.2.2.2.1.length ≤ b ∧ x.2.2.2.2.2.2.2.1.length ≤ b ∧ x.2.2.2.2.2.2.2.2.1.length ≤ b) := by
  have hl := hx.1
  obtain ⟨v, h1, h2⟩ := szItemS_F (N := N) (b := b) hx hN hb hb2
  obtain ⟨h3, h4⟩ := PG_laws_szItemS h1
  simp only [F_laws_szKeeper]
  rw [h3, h4, chk_true]
  rcases h2 with rfl | ⟨h, hl⟩
  · exact ⟨-1, rfl, .inl rfl⟩
  rw [ilt_eq, decide_eq_false (by omega), cond_false]
  rcases szInt64S_le (xs := x.2.2.2.2.2.2.2.1) (v := v) (by omega) (by omega) with ⟨e, _⟩ | ⟨e, e'⟩
  · rw [e]; exact ⟨-1, rfl, .inl rfl⟩
  rw [e, ilt_eq, decide_eq_false (by omega), cond_false]
  rcases szInt64S_le (xs := x.2.2.2.2.2.2.2.2.1) (v := v - x.2.2.2.2.2.2.2.1.length) (by omega) (by omega) with ⟨e, _⟩ | ⟨e, e''⟩
  · rw [e]; exact ⟨-1, rfl, .inl rfl⟩
  rw [e, ilt_eq, decide_eq_false (by omega), cond_false]
  exact ⟨_, rfl, .inr ⟨by omega, by omega, by omega, by omega, by omega⟩⟩
theorem toKeeper_F {N : Nat} {x : DKeeper} (h4 : x.2.2.2.1.length ≤ 1048576) (h8 : x.2.2.2.2.2.2.2.1.length ≤ 1048576) (h9 : x.2.2.2.2.2.2.2.2.1.length ≤ 1048576) (hN : 9223372036854775808 ≤ N) : F_laws_toKeeper N x = some x := by
  obtain ⟨p1, g1⟩ := PG_laws_toItemS (toItemS_F (N := N) h4 hN)
  obtain ⟨p2, g2⟩ := PG_laws_toInt64S (toInt64S_F (N := N) h8 hN)
  obtain ⟨p3, g3⟩ := PG_laws_toInt64S (toInt64S_F (N := N) h9 hN)
  simp only [F_laws_toKeeper, p1, g1, p2, g2, p3, g3, chk_true]
theorem eqKeeper_F {N : Nat} {x : DKeeper} (h4 : x.2.2.2.1.length < 9223372036854775808) (h8 : x.2.2.2.2.2.2.2.1.length < 9223372036854775808) (h9 : x.2.2.2.2.2.2.2.2.1.length < 9223372036854775808) (hN : 9223372036854775808 ≤ N) : F_laws_eqKeeper N x x = some true := by
  obtain ⟨p1, g1⟩ := PG_laws_eqItemS (eqItemS_F (N := N) h4 hN)
  obtain ⟨p2, g2⟩ := PG_laws_eqInt64S (eqInt64S_F (N := N) h8 hN)
  obtain ⟨p3, g3⟩ := PG_laws_eqInt64S (eqInt64S_F (N := N) h9 hN)
  simp only [F_laws_eqKeeper, p1, g1, p2, g2, p3, g3, chk_true, ieq_eq]
  simp
theorem wfKeeper {x : DKeeper} (hw : tKeeper.wf x) : wfL (fun x : DItem => x.2.size < 9223372036854775808) x.2.2.2.1 ∧ x.2.2.2.2.2.2.2.1.length < 9223372036854775808 ∧ x.2.2.2.2.2.2.2.2.1.length < 9223372036854775808 := by
  have h : wfL (fun x => tItem.wf x) x.2.2.2.1 := hw.2.2.2.1
  exact ⟨⟨h.1, fun y hy => (h.2 y hy).2.1⟩, hw.2.2.2.2.2.2.2.1.1, hw.2.2.2.2.2.2.2.2.1.1⟩
theorem anyItem_F {N : Nat} {xs : List DItem} (hl : xs.length < 9223372036854775808) (hN : 9223372036854775808 ≤ N) : ∃ j : Int, F_slices_IndexFunc_Item_impl_isLetter_c1 N xs () = some j ∧ ile 0 j = xs.any (fun x => !okItem x) := by
  have hc : ∀ x : DItem, P_impl_isLetter_c1 N x = true ∧ G_impl_isLetter_c1 N x = !okItem x := fun x => by
    obtain ⟨h1, h2⟩ := PG_impl_isItem (isItem_F (N := N) x)
    exact PG_impl_isLetter_c1 (by simp only [F_impl_isLetter_c1, h1, h2, chk_true])
  simp only [F_slices_IndexFunc_Item_impl_isLetter_c1, F_slices_IndexFunc_Item_impl_isLetter_c1R, slices_IndexFunc_Item_impl_isLetter_c1_h1, slices_IndexFunc_Item_impl_isLetter_c1_x1_0]
  have k := loop_any xs.length (fun n i => slices_IndexFunc_Item_impl_isLetter_c1_l1 (some (-1)) N xs xs.length n i) (fun i => !okItem (xs.getD i dItem)) (fun i => some (i : Int)) (some (-1)) ?_ ?_ N 0 (by omega) (by omega)
  · rcases k with ⟨j, _, h2, h3, _, h5⟩ | ⟨h1, h2⟩
    · refine ⟨j, h5, ?_⟩
      rw [ile_eq, decide_eq_true (by omega)]
      rw [getD_lt h2] at h3
      exact (List.any_eq_true.2 ⟨xs[j], List.getElem_mem h2, h3⟩).symm
    · refine ⟨-1, h2, ?_⟩
      rw [show ile 0 (-1) = false from rfl]
      symm
      rw [List.any_eq_false]
      intro x hx
      obtain ⟨j, hj, rfl⟩ := List.getElem_of_mem hx
      have := h1 j (by omega) hj
      rw [getD_lt hj] at this
      simp [this]
  · intro n i hi
    simp only [slices_IndexFunc_Item_impl_isLetter_c1_l1, slices_IndexFunc_Item_impl_isLetter_c1_l1s, ilt_nat, inb_nat, Int.toNat_natCast, hi, decide_true, cond_true, chk_true, (hc _).1, (hc _).2]
    rw [w64_succ (by omega)]
  · intro n
    simp only [slices_IndexFunc_Item_impl_isLetter_c1_l1, slices_IndexFunc_Item_impl_isLetter_c1_l1s, ilt_nat, Nat.lt_irrefl, decide_false, cond_false]
theorem wfItem {x : DItem} (h : tItem.wf x) : x.2.size < 9223372036854775808 := h.2.1
theorem specLetter_F {N : Nat} {t fr to te p i c : Int} {xs : List DItem} {g : Bool} (hx : wfL (fun x : DItem => x.2.size < 9223372036854775808) xs) (hN : 9223372036854775808 ≤ N) :
    F_spec_LetterOk N (t, fr, to, te, p, i, xs, c, g) = some (
      (ile 0 fr && ile fr 2) && (ile 0 to && ile to 2) && !ieq fr to && (ile 1 te && ile te 1000) && (ile 0 p && ile p 40) && (ile 0 i && ile i 1000) && (ile 0 c && ile c 40) && !ilt 4 xs.length && !xs.any (fun x => !okItem x) &&
      (bif ieq t 1 then (ieq xs.length 0 && ieq c 0) && !g else bif ieq t 2 then ((ieq xs.length 0 && ieq c 0) && ieq p 0) && ieq i 0 else bif ieq t 3 then !g else bif ieq t 4 then (ieq xs.length 0 && ieq c 0) && ieq i 0 else false)) := by
  have hl := hx.1
  have key : ∀ v, spec_LetterOk_h1 N 0 t fr to te p i xs c g = v → v = bif xs.any (fun x => !okItem x) then some false else
      some (bif ieq t 1 then (ieq xs.length 0 && ieq c 0) && !g else bif ieq t 2 then ((ieq xs.length 0 && ieq c 0) && ieq p 0) && ieq i 0 else bif ieq t 3 then !g else bif ieq t 4 then (ieq xs.length 0 && ieq c 0) && ieq i 0 else false) := by
    rintro _ rfl
    simp only [spec_LetterOk_h1]
    refine loop_list xs (fun n j => spec_LetterOk_l1 (spec_LetterOk_x1_0 N t fr to te p i xs c g) N t fr to te p i xs c g n j) (fun x => !okItem x) (some false) _ ?_ ?_ (n := N) (by omega)
    · intro n j hj
      obtain ⟨h1, h2⟩ := PG_spec_l16Item (l16Item_F (x := xs[j]) (hx.2 _ (List.getElem_mem hj)) hN)
      simp only [spec_LetterOk_l1, spec_LetterOk_l1s, ilt_nat, inb_nat, Int.toNat_natCast, hj, decide_true, cond_true, chk_true, getD_lt hj, h1, h2]
      rw [w64_succ (by omega)]
    · intro n
      simp only [spec_LetterOk_l1, spec_LetterOk_l1s, ilt_nat, Nat.lt_irrefl, decide_false, cond_false, spec_LetterOk_x1_0, cond_some]
  simp only [F_spec_LetterOk, F_spec_LetterOkR]
  rw [key _ rfl]
  simp only [G_spec_l1In]
  cases ile 0 fr <;> cases ile fr 2 <;> try rfl
  cases ile 0 to <;> cases ile to 2 <;> try rfl
  cases ieq fr to <;> try rfl
  cases ile 1 te <;> cases ile te 1000 <;> try rfl
  cases ile 0 p <;> cases ile p 40 <;> try rfl
  cases ile 0 i <;> cases ile i 1000 <;> try rfl
  cases ile 0 c <;> cases ile c 40 <;> try rfl
  cases ilt 4 (xs.length : Int) <;> try rfl
  cases xs.any (fun x => !okItem x) <;> rfl
theorem implLetter_F {N : Nat} {t fr to te p i c : Int} {xs : List DItem} {g : Bool} (hl : xs.length < 9223372036854775808) (hN : 9223372036854775808 ≤ N) :
    F_impl_isLetter N (t, fr, to, te, p, i, xs, c, g) = some (((((((((((((((G_impl_within t 1 4) && (G_impl_within fr 0 2)) && (G_impl_within to 0 2)) && (!ieq fr to)) && (G_impl_within te 1 1000)) && (G_impl_within p 0 40)) && ((((ieq t 3) || (ieq t 1)) || (ieq t 4)) || (ieq p 0))) && (G_impl_within i 0 1000)) && (((ieq t 3) || (ieq t 1)) || (ieq i 0))) && (G_impl_within c 0 40)) && ((ieq t 3) || (ieq c 0))) && (ile xs.length 4)) && ((ieq t 3) || (ieq xs.length 0))) && (!xs.any (fun x => !okItem x))) && (((ieq t 2) || (ieq t 4)) || (!g))) := by
  obtain ⟨j, hj, hb⟩ := anyItem_F (N := N) hl hN
  obtain ⟨h1, h2⟩ := PG_slices_IndexFunc_Item_impl_isLetter_c1 hj
  have hc : F_slices_ContainsFunc_Item_impl_isLetter_c1 N xs () = some (xs.any (fun x => !okItem x)) := by
    simp only [F_slices_ContainsFunc_Item_impl_isLetter_c1, h1, h2, chk_true, hb]
  obtain ⟨h3, h4⟩ := PG_slices_ContainsFunc_Item_impl_isLetter_c1 hc
  simp only [F_impl_isLetter, h3, h4, Bool.true_or, chk_true]
theorem letter_same {N : Nat} (x : DLetter) (hx : wfL (fun x : DItem => x.2.size < 9223372036854775808) x.2.2.2.2.2.2.1) (hN : 9223372036854775808 ≤ N) : ∃ b, F_spec_LetterOk N x = some b ∧ F_impl_isLetter N x = some b := by
  obtain ⟨t, fr, to, te, p, i, xs, c, g⟩ := x
  refine ⟨_, specLetter_F hx hN, ?_⟩
  rw [implLetter_F hx.1 hN]
  congr 1
  generalize xs.any (fun x => !okItem x) = w
  have h0 : 0 ≤ (xs.length : Int) := by omega
  revert h0
  generalize (xs.length : Int) = len
  intro h0
  simp only [G_impl_within]
  rw [Bool.eq_iff_iff]
  by_cases t1 : t = 1
  · subst t1; cases w <;> cases g <;> simp [ile_eq, ilt_eq, ieq_eq] <;> omega
  by_cases t2 : t = 2
  · subst t2; cases w <;> cases g <;> simp [ile_eq, ilt_eq, ieq_eq] <;> omega
  by_cases t3 : t = 3
  · subst t3; cases w <;> cases g <;> simp [ile_eq, ilt_eq, ieq_eq] <;> omega
  by_cases t4 : t = 4
  · subst t4; cases w <;> cases g <;> simp [ile_eq, ilt_eq, ieq_eq] <;> omega
  cases w <;> cases g <;> simp [ile_eq, ilt_eq, ieq_eq, t1, t2, t3, t4] <;> omega
theorem szKeeperS_F {N : Nat} {xs : List DKeeper} {b : Int} (Q : DKeeper → Prop) (hl : xs.length < 9223372036854775808) (hN : 9223372036854775808 ≤ N) (hb : 0 ≤ b) (hb2 : b < 9223372036854775808)
    (he : ∀ x ∈ xs, ∀ v : Int, 0 ≤ v → v ≤ b → ∃ w, F_laws_szKeeper N x v = some w ∧ (w = -1 ∨ 0 ≤ w ∧ w ≤ v ∧ Q x)) :
    ∃ v, F_laws_szKeeperS N xs b = some v ∧ (v = -1 ∨ 0 ≤ v ∧ v ≤ b - xs.length ∧ ∀ x ∈ xs, Q x) := by
  simp only [F_laws_szKeeperS, F_laws_szKeeperSR, laws_szKeeperS_h1]
  rw [w64_of (by omega) (by omega), ilt_eq]
  by_cases h : b - (xs.length : Int) < 0
  · exact ⟨-1, by simp [h], .inl rfl⟩
  simp only [h, decide_false, cond_false]
  refine loop_inv (fun n (s : Int × Int) => laws_szKeeperS_l1 (fun ev1_1 => laws_szKeeperS_x1_0 N ev1_1) N xs n s.1 s.2) (fun s => ∃ i : Nat, s.2 = i ∧ i ≤ xs.length ∧ 0 ≤ s.1 ∧ s.1 ≤ b - xs.length ∧ ∀ j (hj : j < xs.length), j < i → Q xs[j]) (fun s => xs.length - s.2.toNat)
    (fun o => ∃ v, o = some v ∧ (v = -1 ∨ 0 ≤ v ∧ v ≤ b - xs.length ∧ ∀ x ∈ xs, Q x)) ?_ N (b - xs.length, 0) ⟨0, rfl, by omega, by omega, by omega, fun j _ hj => by omega⟩ (by simp; omega)
  rintro n ⟨v, j⟩ ⟨i, rfl, h1, h2, h3, h4⟩
  simp only at h2 h3 ⊢
  simp only [laws_szKeeperS_l1, laws_szKeeperS_l1s, ilt_nat, inb_nat, Int.toNat_natCast, laws_szKeeperS_x1_0]
  by_cases hi : i < xs.length
  · simp only [hi, decide_true, cond_true, chk_true, getD_lt hi]
    obtain ⟨w, e, hw⟩ := he xs[i] (List.getElem_mem hi) v h2 (by omega)
    obtain ⟨p, g⟩ := PG_laws_szKeeper e
    rw [p, g, chk_true]
    rcases hw with rfl | ⟨e1, e2, e3⟩
    · right; exact ⟨-1, rfl, .inl rfl⟩
    · left
      refine ⟨(w, ((i + 1 : Nat) : Int)), ?_, ⟨i + 1, rfl, by omega, e1, by simp only; omega, fun j hj hji => ?_⟩, by simp only [Int.toNat_natCast]; omega⟩
      · rw [ilt_eq, decide_eq_false (by omega), cond_false, w64_succ (by omega)]
      · by_cases hje : j = i
        · subst hje; exact e3
        · exact h4 j hj (by omega)
  · right
    simp only [hi, decide_false, cond_false]
    refine ⟨v, rfl, .inr ⟨h2, h3, fun x hx => ?_⟩⟩
    obtain ⟨j, hj, rfl⟩ := List.getElem_of_mem hx
    exact h4 j hj (by omega)
theorem toKeeperS_F {N : Nat} {xs : List DKeeper} (hl : xs.length ≤ 1048576) (hN : 9223372036854775808 ≤ N) (he : ∀ x ∈ xs, F_laws_toKeeper N x = some x) : F_laws_toKeeperS N xs = some xs := by
  simp only [F_laws_toKeeperS, F_laws_toKeeperSR, laws_toKeeperS_h1]
  rw [chk_of (by simp only [mkOk, ile_eq, ilt_eq, Bool.and_eq_true, decide_eq_true_eq]; omega)]
  have k := loop_map xs (fun x => x) (fun n i h => laws_toKeeperS_l1 (fun eh1_1 => laws_toKeeperS_x1_0 N eh1_1) N xs n i h) (fun h => some h) ?_ ?_ (n := N) (by omega) (hs := List.replicate ((xs.length : Int).toNat) dKeeper) (by simp)
  · refine k.trans ?_
    congr 1
    exact List.map_id'' (fun x => rfl) xs
  · intro n i hi hs hl2
    obtain ⟨p, g⟩ := PG_laws_toKeeper (he xs[i] (List.getElem_mem hi))
    simp only [laws_toKeeperS_l1, laws_toKeeperS_l1s, ilt_nat, inb_nat, Int.toNat_natCast, hl2, hi, decide_true, cond_true, chk_true, getD_lt hi, p, g]
    rw [w64_succ (by omega)]
  · intro n hs
    simp only [laws_toKeeperS_l1, laws_toKeeperS_l1s, ilt_nat, Nat.lt_irrefl, decide_false, cond_false, laws_toKeeperS_x1_0]
theorem eqKeeperS_F {N : Nat} {xs : List DKeeper} (hl : xs.length < 9223372036854775808) (hN : 9223372036854775808 ≤ N) (he : ∀ x ∈ xs, F_laws_eqKeeper N x x = some true) : F_laws_eqKeeperS N xs xs = some true := by
  simp only [F_laws_eqKeeperS, F_laws_eqKeeperSR, laws_eqKeeperS_h1, laws_eqKeeperS_x1_0]
  have k := loop_list xs (fun n i => laws_eqKeeperS_l1 (some true) N xs xs n i) (fun x => false) (some false) (some true) ?_ ?_ (n := N) (by omega)
  · have e : ieq (xs.length : Int) (xs.length : Int) = true := by simp [ieq_eq]
    rw [e]
    have e2 : xs.any (fun x => false) = false := List.any_eq_false.2 (fun _ _ => by simp)
    rw [e2] at k
    exact k
  · intro n i hi
    obtain ⟨p, g⟩ := PG_laws_eqKeeper (he xs[i] (List.getElem_mem hi))
    simp only [laws_eqKeeperS_l1, laws_eqKeeperS_l1s, ilt_nat, inb_nat, Int.toNat_natCast, hi, decide_true, cond_true, chk_true, getD_lt hi, p, g, Bool.not_true, cond_false]
    rw [w64_succ (by omega)]
  · intro n
    simp only [laws_eqKeeperS_l1, laws_eqKeeperS_l1s, ilt_nat, Nat.lt_irrefl, decide_false, cond_false]
theorem szLetterS_F {N : Nat} {xs : List DLetter} {b : Int} (Q : DLetter → Prop) (hl : xs.length < 9223372036854775808) (hN : 9223372036854775808 ≤ N) (hb : 0 ≤ b) (hb2 : b < 9223372036854775808)
    (he : ∀ x ∈ xs, ∀ v : Int, 0 ≤ v → v ≤ b → ∃ w, F_laws_szLetter N x v = some w ∧ (w = -1 ∨ 0 ≤ w ∧ w ≤ v ∧ Q x)) :
    ∃ v, F_laws_szLetterS N xs b = some v ∧ (v = -1 ∨ 0 ≤ v ∧ v ≤ b - xs.length ∧ ∀ x ∈ xs, Q x) := by
  simp only [F_laws_szLetterS, F_laws_szLetterSR, laws_szLetterS_h1]
  rw [w64_of (by omega) (by omega), ilt_eq]
  by_cases h : b - (xs.length : Int) < 0
  · exact ⟨-1, by simp [h], .inl rfl⟩
  simp only [h, decide_false, cond_false]
  refine loop_inv (fun n (s : Int × Int) => laws_szLetterS_l1 (fun ev1_1 => laws_szLetterS_x1_0 N ev1_1) N xs n s.1 s.2) (fun s => ∃ i : Nat, s.2 = i ∧ i ≤ xs.length ∧ 0 ≤ s.1 ∧ s.1 ≤ b - xs.length ∧ ∀ j (hj : j < xs.length), j < i → Q xs[j]) (fun s => xs.length - s.2.toNat)
    (fun o => ∃ v, o = some v ∧ (v = -1 ∨ 0 ≤ v ∧ v ≤ b - xs.length ∧ ∀ x ∈ xs, Q x)) ?_ N (b - xs.length, 0) ⟨0, rfl, by omega, by omega, by omega, fun j _ hj => by omega⟩ (by simp; omega)
  rintro n ⟨v, j⟩ ⟨i, rfl, h1, h2, h3, h4⟩
  simp only at h2 h3 ⊢
  simp only [laws_szLetterS_l1, laws_szLetterS_l1s, ilt_nat, inb_nat, Int.toNat_natCast, laws_szLetterS_x1_0]
  by_cases hi : i < xs.length
  · simp only [hi, decide_true, cond_true, chk_true, getD_lt hi]
    obtain ⟨w, e, hw⟩ := he xs[i] (List.getElem_mem hi) v h2 (by omega)
    obtain ⟨p, g⟩ := PG_laws_szLetter e
    rw [p, g, chk_true]
    rcases hw with rfl | ⟨e1, e2, e3⟩
    · right; exact ⟨-1, rfl, .inl rfl⟩
    · left
      refine ⟨(w, ((i + 1 : Nat) : Int)), ?_, ⟨i + 1, rfl, by omega, e1, by simp only; omega, fun j hj hji => ?_⟩, by simp only [Int.toNat_natCast]; omega⟩
      · rw [ilt_eq, decide_eq_false (by omega), cond_false, w64_succ (by omega)]
      · by_cases hje : j = i
        · subst hje; exact e3
        · exact h4 j hj (by omega)
  · right
    simp only [hi, decide_false, cond_false]
    refine ⟨v, rfl, .inr ⟨h2, h3, fun x hx => ?_⟩⟩
    obtain ⟨j, hj, rfl⟩ := List.getElem_of_mem hx
    exact h4 j hj (by omega)
theorem toLetterS_F {N : Nat} {xs : List DLetter} (hl : xs.length ≤ 1048576) (hN : 9223372036854775808 ≤ N) (he : ∀ x ∈ xs, F_laws_toLetter N x = some x) : F_laws_toLetterS N xs = some xs := by
  simp only [F_laws_toLetterS, F_laws_toLetterSR, laws_toLetterS_h1]
  rw [chk_of (by simp only [mkOk, ile_eq, ilt_eq, Bool.and_eq_true, decide_eq_true_eq]; omega)]
  have k := loop_map xs (fun x => x) (fun n i h => laws_toLetterS_l1 (fun eh1_1 => laws_toLetterS_x1_0 N eh1_1) N xs n i h) (fun h => some h) ?_ ?_ (n := N) (by omega) (hs := List.replicate ((xs.length : Int).toNat) dLetter) (by simp)
  · refine k.trans ?_
    congr 1
    exact List.map_id'' (fun x => rfl) xs
  · intro n i hi hs hl2
    obtain ⟨p, g⟩ := PG_laws_toLetter (he xs[i] (List.getElem_mem hi))
    simp only [laws_toLetterS_l1, laws_toLetterS_l1s, ilt_nat, inb_nat, Int.toNat_natCast, hl2, hi, decide_true, cond_true, chk_true, getD_lt hi, p, g]
    rw [w64_succ (by omega)]
  · intro n hs
    simp only [laws_toLetterS_l1, laws_toLetterS_l1s, ilt_nat, Nat.lt_irrefl, decide_false, cond_false, laws_toLetterS_x1_0]
theorem eqLetterS_F {N : Nat} {xs : List DLetter} (hl : xs.length < 9223372036854775808) (hN : 9223372036854775808 ≤ N) (he : ∀ x ∈ xs, F_laws_eqLetter N x x = some true) : F_laws_eqLetterS N xs xs = some true := by
  simp only [F_laws_eqLetterS, F_laws_eqLetterSR, laws_eqLetterS_h1, laws_eqLetterS_x1_0]
  have k := loop_list xs (fun n i => laws_eqLetterS_l1 (some true) N xs xs n i) (fun x => false) (some false) (some true) ?_ ?_ (n := N) (by omega)
  · have e : ieq (xs.length : Int) (xs.length : Int) = true := by simp [ieq_eq]
    rw [e]
    have e2 : xs.any (fun x => false) = false := List.any_eq_false.2 (fun _ _ => by simp)
    rw [e2] at k
    exact k
  · intro n i hi
    obtain ⟨p, g⟩ := PG_laws_eqLetter (he xs[i] (List.getElem_mem hi))
    simp only [laws_eqLetterS_l1, laws_eqLetterS_l1s, ilt_nat, inb_nat, Int.toNat_natCast, hi, decide_true, cond_true, chk_true, getD_lt hi, p, g, Bool.not_true, cond_false]
    rw [w64_succ (by omega)]
  · intro n
    simp only [laws_eqLetterS_l1, laws_eqLetterS_l1s, ilt_nat, Nat.lt_irrefl, decide_false, cond_false]
theorem anyLetter_impl_isHouse_c1_F {N : Nat} {xs : List DLetter} (hl : xs.length < 9223372036854775808) (hN : 9223372036854775808 ≤ N) (bad : DLetter → Bool) (hc : ∀ x ∈ xs, P_impl_isHouse_c1 N x = true ∧ G_impl_isHouse_c1 N x = bad x) : F_slices_ContainsFunc_Letter_impl_isHouse_c1 N xs () = some (xs.any bad) := by
  have key : ∃ j : Int, F_slices_IndexFunc_Letter_impl_isHouse_c1 N xs () = some j ∧ ile 0 j = xs.any bad := by
    simp only [F_slices_IndexFunc_Letter_impl_isHouse_c1, F_slices_IndexFunc_Letter_impl_isHouse_c1R, slices_IndexFunc_Letter_impl_isHouse_c1_h1, slices_IndexFunc_Letter_impl_isHouse_c1_x1_0]
    have k := loop_any xs.length (fun n i => slices_IndexFunc_Letter_impl_isHouse_c1_l1 (some (-1)) N xs xs.length n i) (fun i => if hi : i < xs.length then bad xs[i] else false) (fun i => some (i : Int)) (some (-1)) ?_ ?_ N 0 (by omega) (by omega)
    · rcases k with ⟨j, _, h2, h3, _, h5⟩ | ⟨h1, h2⟩
      · refine ⟨j, h5, ?_⟩
        rw [ile_eq, decide_eq_true (by omega)]
        simp only [h2, dite_true] at h3
        exact (List.any_eq_true.2 ⟨xs[j], List.getElem_mem h2, h3⟩).symm
      · refine ⟨-1, h2, ?_⟩
        rw [show ile 0 (-1) = false from rfl]
        symm
        rw [List.any_eq_false]
        intro x hx
        obtain ⟨j, hj, rfl⟩ := List.getElem_of_mem hx
        have := h1 j (by omega) hj
        simp only [hj, dite_true] at this
        simp [this]
    · intro n i hi
      have hb := hc xs[i] (List.getElem_mem hi)
      simp only [slices_IndexFunc_Letter_impl_isHouse_c1_l1, slices_IndexFunc_Letter_impl_isHouse_c1_l1s, ilt_nat, inb_nat, Int.toNat_natCast, hi, dite_true, decide_true, cond_true, chk_true, getD_lt hi, hb]
      rw [w64_succ (by omega)]
    · intro n
      simp only [slices_IndexFunc_Letter_impl_isHouse_c1_l1, slices_IndexFunc_Letter_impl_isHouse_c1_l1s, ilt_nat, Nat.lt_irrefl, decide_false, cond_false]
  obtain ⟨j, h1, h2⟩ := key
  obtain ⟨h3, h4⟩ := PG_slices_IndexFunc_Letter_impl_isHouse_c1 h1
  simp only [F_slices_ContainsFunc_Letter_impl_isHouse_c1, h3, h4, chk_true, h2]
def okKeeperD (x : DKeeper) : Prop := wfL (fun x : DItem => x.2.size < 9223372036854775808) x.2.2.2.1 ∧ x.2.2.2.2.2.2.2.1.length < 9223372036854775808 ∧ x.2.2.2.2.2.2.2.2.1.length < 9223372036854775808
def okLetterD (x : DLetter) : Prop := wfL (fun x : DItem => x.2.size < 9223372036854775808) x.2.2.2.2.2.2.1
theorem house_same {N : Nat} (x : DHouse) (h1 : wfL okKeeperD x.1) (h2 : wfL okLetterD x.2) (hN : 9223372036854775808 ≤ N) : ∃ b, F_spec_HouseOk N x = some b ∧ F_impl_HouseOk N x = some b := by
  obtain ⟨ks, ls⟩ := x
  simp only at h1 h2
  have l1 := h1.1
  have l2 := h2.1
  -- what a keeper's and a letter's checks say
  let kb : DKeeper → Bool := fun y => G_spec_KeeperOk N y
  let lb : DLetter → Bool := fun y => G_spec_LetterOk N y
  have hk : ∀ y ∈ ks, P_spec_KeeperOk N y = true ∧ P_impl_isKeeper N y = true ∧ G_impl_isKeeper N y = G_spec_KeeperOk N y := fun y hy => by
    obtain ⟨w4, w8, w9⟩ := h1.2 y hy
    obtain ⟨b, e1, e2⟩ := keeper_same (N := N) y w4 w8 w9 hN
    obtain ⟨p, g⟩ := PG_spec_KeeperOk e1
    obtain ⟨p2, g2⟩ := PG_impl_isKeeper e2
    exact ⟨p, p2, by rw [g, g2]⟩
  have hlt : ∀ y ∈ ls, P_spec_LetterOk N y = true ∧ P_impl_isLetter N y = true ∧ G_impl_isLetter N y = G_spec_LetterOk N y := fun y hy => by
    obtain ⟨b, e1, e2⟩ := letter_same (N := N) y (h2.2 y hy) hN
    obtain ⟨p, g⟩ := PG_spec_LetterOk e1
    obtain ⟨p2, g2⟩ := PG_impl_isLetter e2
    exact ⟨p, p2, by rw [g, g2]⟩
  let bad : Nat → Bool := fun i => !G_spec_KeeperOk N (ks.getD i dKeeper) || !ieq (ks.getD i dKeeper).1 (i : Int)
  have hI : F_impl_isHouse N (ks, ls) = some (!(List.range ks.length).any bad && ((ieq ks.length 3 && ile ls.length 40) && !ls.any (fun y => !G_spec_LetterOk N y))) := by
    obtain ⟨p, g⟩ := PG_slices_ContainsFunc_Letter_impl_isHouse_c1 (anyLetter_impl_isHouse_c1_F (N := N) l2 hN (fun y => !G_spec_LetterOk N y) (fun y hy => by
      obtain ⟨_, q1, q2⟩ := hlt y hy
      exact PG_impl_isHouse_c1 (by simp only [F_impl_isHouse_c1, q1, q2, chk_true])))
    simp only [F_impl_isHouse, F_impl_isHouseR, impl_isHouse_h1]
    have k := loop_any ks.length (fun n i => impl_isHouse_l1 (impl_isHouse_x1_0 N ks ls) N ks ks.length ks ls n i) bad (fun _ => some false) (some ((ieq ks.length 3 && ile ls.length 40) && !ls.any (fun y => !G_spec_LetterOk N y))) (fun n i hi => by
      obtain ⟨_, q1, q2⟩ := hk ks[i] (List.getElem_mem hi)
      simp only [impl_isHouse_l1, impl_isHouse_l1s, bad, ilt_nat, inb_nat, Int.toNat_natCast, hi, decide_true, cond_true, chk_true, getD_lt hi, q1, q2]
      rw [w64_succ (by omega)]) (fun n => by simp only [impl_isHouse_l1, impl_isHouse_l1s, ilt_nat, Nat.lt_irrefl, decide_false, cond_false, impl_isHouse_x1_0, p, g, Bool.true_or, chk_true]) N 0 (by omega) (by omega)
    rcases k with ⟨j, _, a1, a2, _, a3⟩ | ⟨a1, a2⟩
    · refine Eq.trans a3 ?_
      rw [show (List.range ks.length).any bad = true from List.any_eq_true.2 ⟨j, List.mem_range.2 a1, a2⟩]; rfl
    · refine Eq.trans a2 ?_
      rw [show (List.range ks.length).any bad = false from List.any_eq_false.2 (fun j hj => by rw [a1 j (by omega) (List.mem_range.1 hj)]; simp)]; rfl
  obtain ⟨pI, gI⟩ := PG_impl_isHouse hI
  refine ⟨_, ?_, by simp only [F_impl_HouseOk, pI, gI, chk_true]; rfl⟩
  simp only [F_spec_HouseOk, F_spec_HouseOkR]
  cases h3 : ieq (ks.length : Int) 3
  · simp
  cases h40 : ilt 40 (ls.length : Int)
  · have e40 : ile (ls.length : Int) 40 = true := by rw [ilt] at h40; simpa using h40
    rw [e40]
    have len3 : ks.length = 3 := by rw [ieq_eq, decide_eq_true_eq] at h3; omega
    simp only [Bool.not_true, Bool.or_self, cond_false, Bool.and_self, Bool.true_and, spec_HouseOk_h1]
    have kl : spec_HouseOk_x1_0 N ks ls = some (!ls.any (fun y => !G_spec_LetterOk N y)) := by
      simp only [spec_HouseOk_x1_0, spec_HouseOk_x1_0R, spec_HouseOk_h2]
      have k := loop_list ls (fun n i => spec_HouseOk_l2 (spec_HouseOk_x2_2 N) N ks ls n i) (fun y => !G_spec_LetterOk N y) (some false) (some true) (fun n i hi => by
        obtain ⟨q1, _, _⟩ := hlt ls[i] (List.getElem_mem hi)
        simp only [spec_HouseOk_l2, spec_HouseOk_l2s, ilt_nat, inb_nat, Int.toNat_natCast, hi, decide_true, cond_true, chk_true, getD_lt hi, q1]
        rw [w64_succ (by omega)]) (fun n => by simp only [spec_HouseOk_l2, spec_HouseOk_l2s, ilt_nat, Nat.lt_irrefl, decide_false, cond_false, spec_HouseOk_x2_2]) (n := N) (by omega)
      refine Eq.trans k ?_
      cases ls.any (fun y => !G_spec_LetterOk N y) <;> rfl
    have k := loop_any ks.length (fun n i => spec_HouseOk_l1 (spec_HouseOk_x1_0 N ks ls) N ks ls n i) bad (fun _ => some false) (some (!ls.any (fun y => !G_spec_LetterOk N y))) (fun n i hi => by
      obtain ⟨q1, _, _⟩ := hk ks[i] (List.getElem_mem hi)
      have e3 : ilt (i : Int) 3 = true := by rw [ilt_eq, decide_eq_true_eq]; omega
      simp only [spec_HouseOk_l1, spec_HouseOk_l1s, bad, e3, inb_nat, Int.toNat_natCast, hi, decide_true, Bool.true_or, cond_true, chk_true, getD_lt hi, q1]
      rw [w64_succ (by omega)]) (fun n => by
      have e3 : ilt (ks.length : Int) 3 = false := by rw [ilt_eq, decide_eq_false_iff_not]; omega
      simp only [spec_HouseOk_l1, spec_HouseOk_l1s, e3, cond_false, kl]) N 0 (by omega) (by omega)
    rcases k with ⟨j, _, a1, a2, _, a3⟩ | ⟨a1, a2⟩
    · refine Eq.trans a3 ?_
      rw [show (List.range ks.length).any bad = true from List.any_eq_true.2 ⟨j, List.mem_range.2 a1, a2⟩]; rfl
    · refine Eq.trans a2 ?_
      rw [show (List.range ks.length).any bad = false from List.any_eq_false.2 (fun j hj => by rw [a1 j (by omega) (List.mem_range.1 hj)]; simp)]; rfl
  · have e40 : ile (ls.length : Int) 40 = false := by rw [ilt] at h40; simpa using h40
    rw [e40]; simp
theorem law_F {N : Nat} (x : DHouse) (hw : tHouse.wf x) (hN : 9223372036854775808 ≤ N) : F_laws_FnExactHouseOk N x = some true := by
  have h1 : wfL okKeeperD x.1 := by
    have h : wfL (fun x => tKeeper.wf x) x.1 := hw.1
    exact ⟨h.1, fun y hy => wfKeeper (h.2 y hy)⟩
  have h2 : wfL okLetterD x.2 := by
    have h : wfL (fun x => tLetter.wf x) x.2 := hw.2.1
    refine ⟨h.1, fun y hy => ?_⟩
    have h' : wfL (fun x => tItem.wf x) y.2.2.2.2.2.2.1 := (h.2 y hy).2.2.2.2.2.2.1
    exact ⟨h'.1, fun z hz => wfItem (h'.2 z hz)⟩
  obtain ⟨v, a1, a2⟩ := szKeeperS_F (N := N) (xs := x.1) (b := 1048576) (fun y => y.2.2.2.1.length ≤ 1048576 ∧ y.2.2.2.2.2.2.2.1.length ≤ 1048576 ∧ y.2.2.2.2.2.2.2.2.1.length ≤ 1048576) h1.1 hN (by omega) (by omega) (fun y hy v hv hv2 => by
    obtain ⟨w4, w8, w9⟩ := h1.2 y hy
    obtain ⟨w, e1, e2⟩ := szKeeper_F (N := N) (b := v) w4 w8 w9 hN hv (by omega)
    refine ⟨w, e1, ?_⟩
    rcases e2 with e | ⟨e3, e4, e5, e6, e7⟩
    · exact .inl e
    · exact .inr ⟨e3, e4, by omega, by omega, by omega⟩)
  obtain ⟨p1, g1⟩ := PG_laws_szKeeperS a1
  have hz : F_laws_szHouse N x 1048576 = some (-1) ∨ ∃ w, F_laws_szHouse N x 1048576 = some w ∧ 0 ≤ w ∧ x.1.length ≤ 1048576 ∧ x.2.length ≤ 1048576 ∧ (∀ y ∈ x.1, y.2.2.2.1.length ≤ 1048576 ∧ y.2.2.2.2.2.2.2.1.length ≤ 1048576 ∧ y.2.2.2.2.2.2.2.2.1.length ≤ 1048576) ∧ (∀ y ∈ x.2, y.2.2.2.2.2.2.1.length ≤ 1048576) := by
    simp only [F_laws_szHouse]
    rw [p1, g1, chk_true]
    rcases a2 with rfl | ⟨b1, b2, b3⟩
    · exact .inl rfl
    rw [ilt_eq, decide_eq_false (by omega), cond_false]
    obtain ⟨w, c1, c2⟩ := szLetterS_F (N := N) (xs := x.2) (b := v) (fun y => y.2.2.2.2.2.2.1.length ≤ 1048576) h2.1 hN b1 (by omega) (fun y hy v hv hv2 => by
      obtain ⟨w, e1, e2⟩ := szItemS_F (N := N) (b := v) (h2.2 y hy) hN hv (by omega)
      obtain ⟨e3, e4⟩ := PG_laws_szItemS e1
      refine ⟨w, ?_, ?_⟩
      · simp only [F_laws_szLetter, e3, e4, chk_true]
        rcases e2 with rfl | ⟨h, _⟩
        · rfl
        · rw [ilt_eq, decide_eq_false (by omega)]; rfl
      · rcases e2 with e | ⟨e5, e6⟩
        · exact .inl e
        · exact .inr ⟨e5, by omega, by omega⟩)
    obtain ⟨p2, g2⟩ := PG_laws_szLetterS c1
    rw [p2, g2, chk_true]
    rcases c2 with rfl | ⟨d1, d2, d3⟩
    · exact .inl rfl
    rw [ilt_eq, decide_eq_false (by omega), cond_false]
    exact .inr ⟨w, rfl, d1, by omega, by omega, b3, d3⟩
  simp only [F_laws_FnExactHouseOk]
  rcases hz with e | ⟨w, e, hv, l1, l2, q1, q2⟩
  · obtain ⟨h6, h7⟩ := PG_laws_szHouse e
    rw [h6, h7]; rfl
  obtain ⟨h6, h7⟩ := PG_laws_szHouse e
  rw [h6, h7, chk_true, ilt_eq, decide_eq_false (by omega), cond_false]
  obtain ⟨t1, t2⟩ := PG_laws_toKeeperS (toKeeperS_F (N := N) (xs := x.1) l1 hN (fun y hy => toKeeper_F (q1 y hy).1 (q1 y hy).2.1 (q1 y hy).2.2 hN))
  obtain ⟨t3, t4⟩ := PG_laws_toLetterS (toLetterS_F (N := N) (xs := x.2) l2 hN (fun y hy => by
    obtain ⟨h8, h9⟩ := PG_laws_toItemS (toItemS_F (N := N) (xs := y.2.2.2.2.2.2.1) (q2 y hy) hN)
    simp only [F_laws_toLetter, h8, h9, chk_true]))
  obtain ⟨h11, h12⟩ := PG_laws_toHouse (N := N) (a0 := x) (v := x) (by simp only [F_laws_toHouse, t1, t2, t3, t4, chk_true])
  obtain ⟨b, h13, h14⟩ := house_same (N := N) x h1 h2 hN
  obtain ⟨h15, h16⟩ := PG_spec_HouseOk h13
  obtain ⟨h17, h18⟩ := PG_impl_HouseOk h14
  obtain ⟨u1, u2⟩ := PG_laws_eqKeeperS (eqKeeperS_F (N := N) (xs := x.1) h1.1 hN (fun y hy => by
    obtain ⟨w4, w8, w9⟩ := h1.2 y hy
    exact eqKeeper_F w4.1 w8 w9 hN))
  obtain ⟨u3, u4⟩ := PG_laws_eqLetterS (eqLetterS_F (N := N) (xs := x.2) h2.1 hN (fun y hy => by
    obtain ⟨h19, h20⟩ := PG_laws_eqItemS (eqItemS_F (N := N) (xs := y.2.2.2.2.2.2.1) (h2.2 y hy).1 hN)
    simp only [F_laws_eqLetter, h19, h20, chk_true, ieq_eq]
    simp))
  obtain ⟨h22, h23⟩ := PG_laws_eqHouse (N := N) (a0 := x) (a1 := x) (v := true) (by simp only [F_laws_eqHouse, u1, u2, u3, u4, chk_true]; rfl)
  simp only [h11, h12, h15, h16, h17, h18, h22, h23, chk_true]
  simp
end Go.Proofs.Ytamnlngihccgiaa.AM
