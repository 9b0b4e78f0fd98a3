/- What the functions that the law FnExactCoreOk reaches yield, in plain Lean. -/
import Derived.Test.YtfeedfknflbpjaaGFnExactCoreOk
namespace Go.Proofs.Ytfeedfknflbpjaa.AM
set_option linter.all false
open Go

theorem getB_data (s : ByteArray) (i : Nat) (h : i < s.size) : s[i]! = s.data.toList[i]'(by simpa using h) := by
  rw [getElem!_pos s i h]
  rfl
theorem toInt64S_F {N : Nat} {xs : List Int} (hl : xs.length ≤ 1048576) (hN : 9223372036854775808 ≤ N) : F_laws_toInt64S N xs = some xs := by
  simp only [F_laws_toInt64S, F_laws_toInt64SR, laws_toInt64S_h1]
  rw [chk_of (by simp only [mkOk, ile_eq, ilt_eq, Bool.and_eq_true, decide_eq_true_eq]; omega)]
  have k := loop_map xs (fun x => x) (fun n i h => laws_toInt64S_l1 (fun eh1_1 => laws_toInt64S_x1_0 N eh1_1) N xs n i h) (fun h => some h) ?_ ?_ (n := N) (by omega) (hs := List.replicate ((xs.length : Int).toNat) (0 : Int)) (by simp)
  · refine k.trans ?_
    congr 1
    exact List.map_id'' (fun x => rfl) xs
  · intro n i hi hs hl2
    simp only [laws_toInt64S_l1, laws_toInt64S_l1s, ilt_nat, inb_nat, Int.toNat_natCast, hl2, hi, decide_true, cond_true, chk_true, getD_lt hi]
    rw [w64_succ (by omega)]
  · intro n hs
    simp only [laws_toInt64S_l1, laws_toInt64S_l1s, ilt_nat, Nat.lt_irrefl, decide_false, cond_false, laws_toInt64S_x1_0]
theorem eqInt64S_F {N : Nat} {xs : List Int} (hl : xs.length < 9223372036854775808) (hN : 9223372036854775808 ≤ N) : F_laws_eqInt64S N xs xs = some true := by
  simp only [F_laws_eqInt64S, F_laws_eqInt64SR, laws_eqInt64S_h1, laws_eqInt64S_x1_0]
  have k := loop_list xs (fun n i => laws_eqInt64S_l1 (some true) N xs xs n i) (fun x => false) (some false) (some true) ?_ ?_ (n := N) (by omega)
  · have e : ieq (xs.length : Int) (xs.length : Int) = true := by simp [ieq_eq]
    rw [e]
    have e2 : xs.any (fun x => false) = false := List.any_eq_false.2 (fun _ _ => by simp)
    rw [e2] at k
    exact k
  · intro n i hi
    have e : ieq xs[i] xs[i] = true := by simp [ieq_eq]
    simp only [laws_eqInt64S_l1, laws_eqInt64S_l1s, ilt_nat, inb_nat, Int.toNat_natCast, hi, decide_true, cond_true, chk_true, getD_lt hi, e, Bool.not_true, cond_false]
    rw [w64_succ (by omega)]
  · intro n
    simp only [laws_eqInt64S_l1, laws_eqInt64S_l1s, ilt_nat, Nat.lt_irrefl, decide_false, cond_false]
theorem szInt64S_le {xs : List Int} {v : Int} (h0 : -9223372036854775808 ≤ v - xs.length) (h1 : v < 9223372036854775808) : G_laws_szInt64S xs v = -1 ∧ v - xs.length < 0 ∨ G_laws_szInt64S xs v = v - xs.length ∧ 0 ≤ v - xs.length := by
  simp only [G_laws_szInt64S]
  rw [w64_of h0 (by omega), ilt_eq]
  by_cases h : v - (xs.length : Int) < 0
  · left; simp [h]
  · right; rw [decide_eq_false h, cond_false]; exact ⟨rfl, by omega⟩
theorem szBin_le {x : DBin} {v : Int} (h0 : -9223372036854775808 ≤ v - x.1.size) (h1 : v < 9223372036854775808) : G_laws_szBin x v = -1 ∨ 0 ≤ G_laws_szBin x v ∧ G_laws_szBin x v ≤ v := by
  simp only [G_laws_szBin]
  rw [w64_of h0 (by omega), ilt_eq]
  by_cases h : v - (x.1.size : Int) < 0
  · left; simp [h]
  · right; simp only [h, decide_false, cond_false]; omega
theorem szBinS_F {N : Nat} {xs : List DBin} {b : Int} (hx : wfL (fun x : DBin => x.1.size < 9223372036854775808) xs) (hN : 9223372036854775808 ≤ N) (hb : 0 ≤ b) (hb2 : b < 9223372036854775808) :
    ∃ v, F_laws_szBinS N xs b = some v ∧ (v = -1 ∨ 0 ≤ v ∧ v ≤ b - xs.length) := by
  have hl := hx.1
  simp only [F_laws_szBinS, F_laws_szBinSR, laws_szBinS_h1]
  rw [w64_of (by omega) (by omega), ilt_eq]
  by_cases h : b - (xs.length : Int) < 0
  · exact ⟨-1, by simp [h], .inl rfl⟩
  simp only [h, decide_false, cond_false]
  refine loop_inv (fun n (s : Int × Int) => laws_szBinS_l1 (fun ev1_1 => laws_szBinS_x1_0 N ev1_1) N xs n s.1 s.2) (fun s => ∃ i : Nat, s.2 = i ∧ i ≤ xs.length ∧ 0 ≤ s.1 ∧ s.1 ≤ b - xs.length) (fun s => xs.length - s.2.toNat)
    (fun o => ∃ v, o = some v ∧ (v = -1 ∨ 0 ≤ v ∧ v ≤ b - xs.length)) ?_ N (b - xs.length, 0) ⟨0, rfl, by omega, by omega, by omega⟩ (by simp; omega)
  rintro n ⟨v, j⟩ ⟨i, rfl, h1, h2, h3⟩
  simp only at h2 h3 ⊢
  simp only [laws_szBinS_l1, laws_szBinS_l1s, ilt_nat, inb_nat, Int.toNat_natCast, laws_szBinS_x1_0]
  by_cases hi : i < xs.length
  · simp only [hi, decide_true, cond_true, chk_true, getD_lt hi]
    have hs := hx.2 xs[i] (List.getElem_mem hi)
    rcases szBin_le (x := xs[i]) (v := v) (by omega) (by omega) with e | ⟨e1, e2⟩
    · right; rw [e]; exact ⟨-1, rfl, .inl rfl⟩
    · left
      refine ⟨(G_laws_szBin xs[i] v, ((i + 1 : Nat) : Int)), ?_, ⟨i + 1, rfl, by omega, e1, by simp only; omega⟩, by simp only [Int.toNat_natCast]; omega⟩
      rw [ilt_eq, show decide (G_laws_szBin xs[i] v < 0) = false by simp; omega, cond_false, w64_succ (by omega)]
  · right
    simp only [hi, decide_false, cond_false]
    exact ⟨v, rfl, .inr ⟨h2, h3⟩⟩
theorem toBinS_F {N : Nat} {xs : List DBin} (hl : xs.length ≤ 1048576) (hN : 9223372036854775808 ≤ N) : F_laws_toBinS N xs = some xs := by
  simp only [F_laws_toBinS, F_laws_toBinSR, laws_toBinS_h1]
  rw [chk_of (by simp only [mkOk, ile_eq, ilt_eq, Bool.and_eq_true, decide_eq_true_eq]; omega)]
  have k := loop_map xs G_laws_toBin (fun n i h => laws_toBinS_l1 (fun eh1_1 => laws_toBinS_x1_0 N eh1_1) N xs n i h) (fun h => some h) ?_ ?_ (n := N) (by omega) (hs := List.replicate ((xs.length : Int).toNat) dBin) (by simp)
  · refine k.trans ?_
    congr 1
    exact List.map_id'' (fun x => rfl) xs
  · intro n i hi hs hl2
    simp only [laws_toBinS_l1, laws_toBinS_l1s, ilt_nat, inb_nat, Int.toNat_natCast, hl2, hi, decide_true, cond_true, chk_true, getD_lt hi]
    rw [w64_succ (by omega)]
  · intro n hs
    simp only [laws_toBinS_l1, laws_toBinS_l1s, ilt_nat, Nat.lt_irrefl, decide_false, cond_false, laws_toBinS_x1_0]
theorem eqBin_same (x : DBin) : G_laws_eqBin x x = true := by
  simp only [G_laws_eqBin, ieq_eq]; simp
theorem eqBinS_F {N : Nat} {xs : List DBin} (hl : xs.length < 9223372036854775808) (hN : 9223372036854775808 ≤ N) : F_laws_eqBinS N xs xs = some true := by
  simp only [F_laws_eqBinS, F_laws_eqBinSR, laws_eqBinS_h1, laws_eqBinS_x1_0]
  have k := loop_list xs (fun n i => laws_eqBinS_l1 (some true) N xs xs n i) (fun x => false) (some false) (some true) ?_ ?_ (n := N) (by omega)
  · have e : ieq (xs.length : Int) (xs.length : Int) = true := by simp [ieq_eq]
    rw [e]
    have e2 : xs.any (fun x => false) = false := List.any_eq_false.2 (fun _ _ => by simp)
    rw [e2] at k
    exact k
  · intro n i hi
    simp only [laws_eqBinS_l1, laws_eqBinS_l1s, ilt_nat, inb_nat, Int.toNat_natCast, hi, decide_true, cond_true, chk_true, getD_lt hi, eqBin_same, Bool.not_true, cond_false]
    rw [w64_succ (by omega)]
  · intro n
    simp only [laws_eqBinS_l1, laws_eqBinS_l1s, ilt_nat, Nat.lt_irrefl, decide_false, cond_false]
/-- What a name must be. -/
def okName (s : ByteArray) : Bool := !s.data.toList.any (fun c => ilt (c.toNat : Int) 97 || ilt 122 (c.toNat : Int)) && (ile 1 s.size && ile s.size 8)
theorem specName_F {N : Nat} {s : ByteArray} (hs : s.size < 9223372036854775808) (hN : 9223372036854775808 ≤ N) : F_spec_NameOk N s = some (okName s) := by
  simp only [F_spec_NameOk, F_spec_NameOkR, spec_NameOk_h1, spec_NameOk_x1_0]
  have hlen : s.data.toList.length = s.size := by simp
  have k := loop_list s.data.toList (fun n i => spec_NameOk_l1 (some (G_spec_l1In (s.size : Int) 1 8)) N s n i) (fun c => ilt (c.toNat : Int) 97 || ilt 122 (c.toNat : Int)) (some false) (some (G_spec_l1In (s.size : Int) 1 8)) ?_ ?_ (n := N) (by omega)
  · refine k.trans ?_
    simp only [okName, G_spec_l1In]
    cases s.data.toList.any (fun c => ilt (c.toNat : Int) 97 || ilt 122 (c.toNat : Int)) <;> simp
  · intro n i hi
    have hi' : i < s.size := by omega
    simp only [spec_NameOk_l1, spec_NameOk_l1s, ilt_nat, inb_nat, Int.toNat_natCast, hi', decide_true, Bool.true_or, cond_true, chk_true]
    rw [w64_succ (by omega), getB_data s i hi']
  · intro n
    simp only [spec_NameOk_l1, spec_NameOk_l1s, hlen, ilt_nat, Nat.lt_irrefl, decide_false, cond_false]
theorem implName_F {N : Nat} {s : ByteArray} (hs : s.size < 9223372036854775808) (hN : 9223372036854775808 ≤ N) : F_impl_isName N s = some (okName s) := by
  simp only [F_impl_isName, F_impl_isNameR, impl_isName_h1, impl_isName_x1_0]
  have hlen : s.data.toList.length = s.size := by simp
  have k := loop_list s.data.toList (fun n i => impl_isName_l1 (some (ile 1 (s.size : Int) && ile (s.size : Int) 8)) N s s.size n i) (fun c => ilt (c.toNat : Int) 97 || ilt 122 (c.toNat : Int)) (some false) (some (ile 1 (s.size : Int) && ile (s.size : Int) 8)) ?_ ?_ (n := N) (by omega)
  · refine k.trans ?_
    simp only [okName]
    cases s.data.toList.any (fun c => ilt (c.toNat : Int) 97 || ilt 122 (c.toNat : Int)) <;> simp
  · intro n i hi
    have hi' : i < s.size := by omega
    simp only [impl_isName_l1, impl_isName_l1s, ilt_nat, inb_nat, Int.toNat_natCast, hi', decide_true, Bool.true_or, cond_true, chk_true]
    rw [w64_succ (by omega), getB_data s i hi']
  · intro n
    simp only [impl_isName_l1, impl_isName_l1s, hlen, ilt_nat, Nat.lt_irrefl, decide_false, cond_false]
theorem isWord_eq {x : Int} : G_impl_isWord x = G_spec_l1Word x := by
  simp only [G_impl_isWord, G_impl_wrap, G_spec_l1Word, G_spec_l1In]
  rw [Bool.eq_iff_iff]
  simp only [ieq_eq, ile_eq, Bool.and_eq_true, decide_eq_true_eq, w64, IntKind.wrap, IntKind.bits, IntKind.signed, Bool.true_and, ge_iff_le]
  omega
theorem bl_total : ∀ a b : List UInt8, (Op.bytesLess a b || decide (a = b)) = !Op.bytesLess b a
  | [], [] => rfl
  | [], b :: y => by simp [Op.bytesLess]
  | a :: x, [] => by simp [Op.bytesLess]
  | a :: x, b :: y => by
    have ih := bl_total x y
    rcases Nat.lt_trichotomy a.toNat b.toNat with h | h | h
    · have h1 : a < b := UInt8.lt_iff_toNat_lt.2 h
      have h2 : ¬ b < a := fun k => by have := UInt8.lt_iff_toNat_lt.1 k; omega
      have h3 : ¬ a = b := fun k => by subst k; omega
      have h4 : ¬ b = a := fun k => h3 k.symm
      simp [Op.bytesLess, h1, h2, h3, h4]
    · have h3 : a = b := UInt8.toNat_inj.1 h
      subst h3
      have h1 : ¬ a < a := fun k => by have := UInt8.lt_iff_toNat_lt.1 k; omega
      simpa [Op.bytesLess, h1] using ih
    · have h1 : b < a := UInt8.lt_iff_toNat_lt.2 h
      have h2 : ¬ a < b := fun k => by have := UInt8.lt_iff_toNat_lt.1 k; omega
      have h3 : ¬ a = b := fun k => by subst k; omega
      have h4 : ¬ b = a := fun k => h3 k.symm
      simp [Op.bytesLess, h1, h2, h3, h4]
theorem bl_sym (a b : ByteArray) : (!Op.bytesLess b.toList a.toList) = (Op.bytesLess a.toList b.toList || decide (a = b)) := by
  rw [← bl_total]
  congr 1
  rw [Bool.eq_iff_iff, decide_eq_true_eq, decide_eq_true_eq, ByteArray.toList_eq, ByteArray.toList_eq]
  constructor
  · intro h
    cases a; cases b
    simp only at h
    congr 1
    exact Array.toList_inj.1 h
  · intro h; rw [h]
/-- What is wrong at place i of some bins. -/
def badBin (xs : List DBin) (i : Nat) : Bool := (!okName (xs.getD i dBin).1 || !G_spec_l1Word (xs.getD i dBin).2) || (decide (0 < i) && (Op.bytesLess (xs.getD i dBin).1.toList (xs.getD (i - 1) dBin).1.toList || decide ((xs.getD i dBin).1 = (xs.getD (i - 1) dBin).1)))
theorem bins_same {N : Nat} {xs : List DBin} (hx : wfL (fun x : DBin => x.1.size < 9223372036854775808) xs) (hN : 9223372036854775808 ≤ N) : ∃ b, F_spec_BinsOk N xs = some b ∧ F_impl_areBins N xs = some b := by
  have hl := hx.1
  have e1 : ∀ i : Nat, ilt 0 (i : Int) = decide (0 < i) := fun i => ilt_nat 0 i
  have e2 : ∀ i : Nat, 0 < i → i < xs.length → w64 ((i : Int) - 1) = ((i - 1 : Nat) : Int) := fun i h h' => by rw [w64_of (by omega) (by omega)]; omega
  have hS := loop_any xs.length (fun n i => spec_BinsOk_l1 (spec_BinsOk_x1_0 N xs) N xs n i) (badBin xs) (fun _ => some false) (some (ile xs.length 12)) (fun n i hi => by
    obtain ⟨p, g⟩ := PG_spec_NameOk (specName_F (s := xs[i].1) (hx.2 _ (List.getElem_mem hi)) hN)
    by_cases h0 : 0 < i
    · simp only [spec_BinsOk_l1, spec_BinsOk_l1s, badBin, ilt_nat, inb_nat, e1, e2 i h0 hi, Int.toNat_natCast, hi, h0, show i - 1 < xs.length from by omega, decide_true, Bool.true_or, Bool.true_and, cond_true, chk_true, getD_lt hi, getD_lt (show i - 1 < xs.length from by omega), p, g]
      rw [w64_succ (by omega)]
    · simp only [spec_BinsOk_l1, spec_BinsOk_l1s, badBin, ilt_nat, inb_nat, e1, Int.toNat_natCast, hi, h0, decide_true, decide_false, Bool.true_or, Bool.and_false, Bool.false_and, Bool.or_false, Bool.not_false, Bool.or_true, cond_true, chk_true, getD_lt hi, p, g]
      rw [w64_succ (by omega)]) (fun n => by simp only [spec_BinsOk_l1, spec_BinsOk_l1s, ilt_nat, Nat.lt_irrefl, decide_false, cond_false, spec_BinsOk_x1_0]) N 0 (by omega) (by omega)
  have hI := loop_any xs.length (fun n i => impl_areBins_l1 (impl_areBins_x1_0 N xs) N xs xs xs.length n i) (badBin xs) (fun _ => some false) (some (ile xs.length 12)) (fun n i hi => by
    obtain ⟨p, g⟩ := PG_impl_isName (implName_F (s := xs[i].1) (hx.2 _ (List.getElem_mem hi)) hN)
    by_cases h0 : 0 < i
    · simp only [impl_areBins_l1, impl_areBins_l1s, badBin, ilt_nat, inb_nat, e1, e2 i h0 hi, Int.toNat_natCast, hi, h0, show i - 1 < xs.length from by omega, decide_true, Bool.true_or, Bool.true_and, cond_true, chk_true, getD_lt hi, getD_lt (show i - 1 < xs.length from by omega), p, g, bl_sym, isWord_eq]
      rw [w64_succ (by omega)]
    · simp only [impl_areBins_l1, impl_areBins_l1s, badBin, ilt_nat, inb_nat, e1, Int.toNat_natCast, hi, h0, decide_true, decide_false, Bool.true_or, Bool.and_false, Bool.false_and, Bool.or_false, Bool.not_false, Bool.or_true, cond_true, chk_true, getD_lt hi, p, g, isWord_eq]
      rw [w64_succ (by omega)]) (fun n => by simp only [impl_areBins_l1, impl_areBins_l1s, ilt_nat, Nat.lt_irrefl, decide_false, cond_false, impl_areBins_x1_0]) N 0 (by omega) (by omega)
  rcases hS with ⟨j, _, h2, h3, _, h5⟩ | ⟨h1, h2⟩
  · rcases hI with ⟨j', _, g2, g3, _, g5⟩ | ⟨g1, g2⟩
    · exact ⟨false, h5, g5⟩
    · rw [g1 j (by omega) h2] at h3; cases h3
  · rcases hI with ⟨j', _, g2, g3, _, g5⟩ | ⟨g1, g2⟩
    · rw [h1 j' (by omega) g2] at g3; cases g3
    · exact ⟨_, h2, g2⟩
theorem anyint64_impl_isCore_c1_F {N : Nat} {xs : List Int} (hl : xs.length < 9223372036854775808) (hN : 9223372036854775808 ≤ N) (bad : Int → Bool) (hc : ∀ x ∈ xs, G_impl_isCore_c1 x = bad x) : F_slices_ContainsFunc_int64_impl_isCore_c1 N xs () = some (xs.any bad) := by
  have key : ∃ j : Int, F_slices_IndexFunc_int64_impl_isCore_c1 N xs () = some j ∧ ile 0 j = xs.any bad := by
    simp only [F_slices_IndexFunc_int64_impl_isCore_c1, F_slices_IndexFunc_int64_impl_isCore_c1R, slices_IndexFunc_int64_impl_isCore_c1_h1, slices_IndexFunc_int64_impl_isCore_c1_x1_0]
    have k := loop_any xs.length (fun n i => slices_IndexFunc_int64_impl_isCore_c1_l1 (some (-1)) N xs xs.length n i) (fun i => if hi : i < xs.length then bad xs[i] else false) (fun i => some (i : Int)) (some (-1)) ?_ ?_ N 0 (by omega) (by omega)
    · rcases k with ⟨j, _, h2, h3, _, h5⟩ | ⟨h1, h2⟩
      · refine ⟨j, h5, ?_⟩
        rw [ile_eq, decide_eq_true (by omega)]
        simp only [h2, dite_true] at h3
        exact (List.any_eq_true.2 ⟨xs[j], List.getElem_mem h2, h3⟩).symm
      · refine ⟨-1, h2, ?_⟩
        rw [show ile 0 (-1) = false from rfl]
        symm
        rw [List.any_eq_false]
        intro x hx
        obtain ⟨j, hj, rfl⟩ := List.getElem_of_mem hx
        have := h1 j (by omega) hj
        simp only [hj, dite_true] at this
        simp [this]
    · intro n i hi
      have hb := hc xs[i] (List.getElem_mem hi)
      simp only [slices_IndexFunc_int64_impl_isCore_c1_l1, slices_IndexFunc_int64_impl_isCore_c1_l1s, ilt_nat, inb_nat, Int.toNat_natCast, hi, dite_true, decide_true, cond_true, chk_true, getD_lt hi, hb]
      rw [w64_succ (by omega)]
    · intro n
      simp only [slices_IndexFunc_int64_impl_isCore_c1_l1, slices_IndexFunc_int64_impl_isCore_c1_l1s, ilt_nat, Nat.lt_irrefl, decide_false, cond_false]
  obtain ⟨j, h1, h2⟩ := key
  obtain ⟨h3, h4⟩ := PG_slices_IndexFunc_int64_impl_isCore_c1 h1
  simp only [F_slices_ContainsFunc_int64_impl_isCore_c1, h3, h4, chk_true, h2]
theorem core_same {N : Nat} (x : DCore) (h2 : x.2.1.length < 9223372036854775808) (h3 : wfL (fun x : DBin => x.1.size < 9223372036854775808) x.2.2.1) (hN : 9223372036854775808 ≤ N) : ∃ b, F_spec_CoreOk N x = some b ∧ F_impl_CoreOk N x = some b := by
  obtain ⟨p, xs, bs, f, k⟩ := x
  simp only at h2 h3
  obtain ⟨b, hb1, hb2⟩ := bins_same h3 hN
  obtain ⟨p1, g1⟩ := PG_spec_BinsOk hb1
  obtain ⟨p2, g2⟩ := PG_impl_areBins hb2
  obtain ⟨p3, g3⟩ := PG_slices_ContainsFunc_int64_impl_isCore_c1 (anyint64_impl_isCore_c1_F h2 hN (fun x => !G_spec_l1Word x) (fun x _ => by simp only [G_impl_isCore_c1, isWord_eq]))
  have hS : F_spec_CoreOk N (p, xs, bs, f, k) = bif xs.any (fun x => !G_spec_l1Word x) then some false else some (((((G_spec_l11Place p) && (ile xs.length 12)) && b) && (G_spec_l10Fuel f)) && (G_spec_l1In k 0 6)) := by
    simp only [F_spec_CoreOk, F_spec_CoreOkR, spec_CoreOk_h1]
    refine loop_list xs (fun n i => spec_CoreOk_l1 (spec_CoreOk_x1_0 N p xs bs f k) N p xs bs f k n i) (fun x => !G_spec_l1Word x) (some false) _ ?_ ?_ (n := N) (by omega)
    · intro n i hi
      simp only [spec_CoreOk_l1, spec_CoreOk_l1s, ilt_nat, inb_nat, Int.toNat_natCast, hi, decide_true, cond_true, chk_true, getD_lt hi]
      rw [w64_succ (by omega)]
    · intro n
      simp only [spec_CoreOk_l1, spec_CoreOk_l1s, ilt_nat, Nat.lt_irrefl, decide_false, cond_false, spec_CoreOk_x1_0, p1, g1, Bool.true_or, chk_true]
  have hI : F_impl_isCore N (p, xs, bs, f, k) = some ((((((G_impl_within p 0 300) && (ile xs.length 12)) && (!xs.any (fun x => !G_spec_l1Word x))) && b) && (G_impl_isFuel f)) && (G_impl_within k 0 6)) := by
    simp only [F_impl_isCore, p2, g2, p3, g3, Bool.true_or, chk_true]
  obtain ⟨p4, g4⟩ := PG_impl_isCore hI
  refine ⟨_, hS.trans (cond_some _ _ _), ?_⟩
  simp only [F_impl_CoreOk, p4, g4, chk_true, G_spec_l11Place, G_spec_l10Fuel, G_impl_isFuel, G_impl_within, G_spec_l1In]
  cases xs.any (fun x => !G_spec_l1Word x) <;> simp
theorem law_F {N : Nat} (x : DCore) (hw : tCore.wf x) (hN : 9223372036854775808 ≤ N) : F_laws_FnExactCoreOk N x = some true := by
  have w2 : x.2.1.length < 9223372036854775808 := hw.2.1.1
  have w3 : wfL (fun x : DBin => x.1.size < 9223372036854775808) x.2.2.1 := by
    have h : wfL (fun x => tBin.wf x) x.2.2.1 := hw.2.2.1
    exact ⟨h.1, fun y hy => (h.2 y hy).1⟩
  have hz : (F_laws_szCore N x 1048576 = some (-1)) ∨ ∃ v, F_laws_szCore N x 1048576 = some v ∧ 0 ≤ v ∧ x.2.1.length ≤ 1048576 ∧ x.2.2.1.length ≤ 1048576 := by
    simp only [F_laws_szCore]
    rcases szInt64S_le (xs := x.2.1) (v := 1048576) (by omega) (by omega) with ⟨e, _⟩ | ⟨e, e'⟩
    · left; rw [e]; rfl
    · rw [e, ilt_eq, decide_eq_false (by omega), cond_false]
      obtain ⟨v, h1, h2⟩ := szBinS_F (N := N) (b := 1048576 - x.2.1.length) w3 hN (by omega) (by omega)
      obtain ⟨h3, h4⟩ := PG_laws_szBinS h1
      rw [h3, h4]
      rcases h2 with rfl | ⟨h, hl⟩
      · left; rfl
      · right
        rw [ilt_eq, decide_eq_false (by omega), cond_false]
        exact ⟨v, rfl, h, by omega, by omega⟩
  simp only [F_laws_FnExactCoreOk]
  rcases hz with e | ⟨v, e, hv, l2, l3⟩
  · obtain ⟨h6, h7⟩ := PG_laws_szCore e
    rw [h6, h7]; rfl
  obtain ⟨h6, h7⟩ := PG_laws_szCore e
  rw [h6, h7, ilt_eq, decide_eq_false (by omega), cond_false, chk_true]
  obtain ⟨h8, h9⟩ := PG_laws_toInt64S (toInt64S_F (N := N) (xs := x.2.1) l2 hN)
  obtain ⟨h8', h9'⟩ := PG_laws_toBinS (toBinS_F (N := N) (xs := x.2.2.1) l3 hN)
  have h10 : F_laws_toCore N x = some x := by simp only [F_laws_toCore, h8, h9, h8', h9', chk_true]
  obtain ⟨h11, h12⟩ := PG_laws_toCore h10
  obtain ⟨b, h13, h14⟩ := core_same (N := N) x w2 w3 hN
  obtain ⟨h15, h16⟩ := PG_spec_CoreOk h13
  obtain ⟨h17, h18⟩ := PG_impl_CoreOk h14
  obtain ⟨h19, h20⟩ := PG_laws_eqInt64S (eqInt64S_F (N := N) (xs := x.2.1) w2 hN)
  obtain ⟨h19', h20'⟩ := PG_laws_eqBinS (eqBinS_F (N := N) (xs := x.2.2.1) w3.1 hN)
  have h21 : F_laws_eqCore N x x = some true := by
    simp only [F_laws_eqCore, h19, h20, h19', h20', chk_true, ieq_eq]
    simp
  obtain ⟨h22, h23⟩ := PG_laws_eqCore h21
  simp only [h11, h12, h15, h16, h17, h18, h22, h23, chk_true]
  simp
end Go.Proofs.Ytfeedfknflbpjaa.AM
