/- What the functions that the law FnExactOrderOk reaches yield, in plain Lean. -/
import Derived.Test.YtfeedfknflbpjaaGFnExactOrderOk
namespace Go.Proofs.Ytfeedfknflbpjaa.AM
set_option linter.all false
open Go

theorem indexByte_mem (l : List UInt8) (c : UInt8) : 0 ≤ Lib.indexByte l c ↔ c ∈ l := by
  induction l with
  | nil => simp [Lib.indexByte]
  | cons b l ih =>
    have := Lib.indexByte_ge l c
    simp only [Lib.indexByte, List.mem_cons]
    by_cases hb : b = c
    · subst hb; simp
    · have h1 : (b == c) = false := by simp [hb]
      have h2 : ¬ c = b := fun h => hb h.symm
      rw [h1]
      simp only [Bool.false_eq_true, if_false, beq_iff_eq, h2, false_or]
      rw [← ih]
      split <;> omega
theorem getB_data (s : ByteArray) (i : Nat) (h : i < s.size) : s[i]! = s.data.toList[i]'(by simpa using h) := by
  rw [getElem!_pos s i h]
  rfl
theorem l14Plain_F {N : Nat} {s : ByteArray} {b : Int} (hs : s.size < 9223372036854775808) (hN : 9223372036854775808 ≤ N) : F_spec_l14Plain N s b = some (!hasByte s 10 && ile s.size b) := by
  simp only [F_spec_l14Plain, F_spec_l14PlainR, spec_l14Plain_h1, spec_l14Plain_x1_0]
  have hlen : s.data.toList.length = s.size := by simp
  have k := loop_list s.data.toList (fun n i => spec_l14Plain_l1 (some (ile (s.size : Int) b)) N s b n i) (fun c => ieq (c.toNat : Int) 10) (some false) (some (ile (s.size : Int) b)) ?_ ?_ (n := N) (by omega)
  · refine k.trans ?_
    have e : s.data.toList.any (fun c => ieq (c.toNat : Int) 10) = hasByte s 10 := by
      rw [Bool.eq_iff_iff, List.any_eq_true, hasByte, decide_eq_true_eq, indexByte_mem]
      constructor
      · rintro ⟨c, h1, h2⟩
        rw [ieq_eq, decide_eq_true_eq] at h2
        have : c = 10 := by apply UInt8.toNat_inj.1; simpa using (by omega : c.toNat = 10)
        rwa [this] at h1
      · intro h
        exact ⟨10, h, by decide⟩
    rw [e]
    cases hasByte s 10 <;> simp
  · intro n i hi
    have hi' : i < s.size := by omega
    simp only [spec_l14Plain_l1, spec_l14Plain_l1s, ilt_nat, inb_nat, Int.toNat_natCast, hi', decide_true, cond_true, chk_true]
    rw [w64_succ (by omega), getB_data s i hi']
  · intro n
    simp only [spec_l14Plain_l1, spec_l14Plain_l1s, hlen, ilt_nat, Nat.lt_irrefl, decide_false, cond_false]
theorem toInt64S_F {N : Nat} {xs : List Int} (hl : xs.length ≤ 1048576) (hN : 9223372036854775808 ≤ N) : F_laws_toInt64S N xs = some xs := by
  simp only [F_laws_toInt64S, F_laws_toInt64SR, laws_toInt64S_h1]
  rw [chk_of (by simp only [mkOk, ile_eq, ilt_eq, Bool.and_eq_true, decide_eq_true_eq]; omega)]
  have k := loop_map xs (fun x => x) (fun n i h => laws_toInt64S_l1 (fun eh1_1 => laws_toInt64S_x1_0 N eh1_1) N xs n i h) (fun h => some h) ?_ ?_ (n := N) (by omega) (hs := List.replicate ((xs.length : Int).toNat) (0 : Int)) (by simp)
  · refine k.trans ?_
    congr 1
    exact List.map_id'' (fun x => rfl) xs
  · intro n i hi hs hl2
    simp only [laws_toInt64S_l1, laws_toInt64S_l1s, ilt_nat, inb_nat, Int.toNat_natCast, hl2, hi, decide_true, cond_true, chk_true, getD_lt hi]
    rw [w64_succ (by omega)]
  · intro n hs
    simp only [laws_toInt64S_l1, laws_toInt64S_l1s, ilt_nat, Nat.lt_irrefl, decide_false, cond_false, laws_toInt64S_x1_0]
theorem eqInt64S_F {N : Nat} {xs : List Int} (hl : xs.length < 9223372036854775808) (hN : 9223372036854775808 ≤ N) : F_laws_eqInt64S N xs xs = some true := by
  simp only [F_laws_eqInt64S, F_laws_eqInt64SR, laws_eqInt64S_h1, laws_eqInt64S_x1_0]
  have k := loop_list xs (fun n i => laws_eqInt64S_l1 (some true) N xs xs n i) (fun x => false) (some false) (some true) ?_ ?_ (n := N) (by omega)
  · have e : ieq (xs.length : Int) (xs.length : Int) = true := by simp [ieq_eq]
    rw [e]
    have e2 : xs.any (fun x => false) = false := List.any_eq_false.2 (fun _ _ => by simp)
    rw [e2] at k
    exact k
  · intro n i hi
    have e : ieq xs[i] xs[i] = true := by simp [ieq_eq]
    simp only [laws_eqInt64S_l1, laws_eqInt64S_l1s, ilt_nat, inb_nat, Int.toNat_natCast, hi, decide_true, cond_true, chk_true, getD_lt hi, e, Bool.not_true, cond_false]
    rw [w64_succ (by omega)]
  · intro n
    simp only [laws_eqInt64S_l1, laws_eqInt64S_l1s, ilt_nat, Nat.lt_irrefl, decide_false, cond_false]
theorem szInt64S_le {xs : List Int} {v : Int} (h0 : -9223372036854775808 ≤ v - xs.length) (h1 : v < 9223372036854775808) : G_laws_szInt64S xs v = -1 ∧ v - xs.length < 0 ∨ G_laws_szInt64S xs v = v - xs.length ∧ 0 ≤ v - xs.length := by
  simp only [G_laws_szInt64S]
  rw [w64_of h0 (by omega), ilt_eq]
  by_cases h : v - (xs.length : Int) < 0
  · left; simp [h]
  · right; rw [decide_eq_false h, cond_false]; exact ⟨rfl, by omega⟩
/-- What a name must be. -/
def okName (s : ByteArray) : Bool := !s.data.toList.any (fun c => ilt (c.toNat : Int) 97 || ilt 122 (c.toNat : Int)) && (ile 1 s.size && ile s.size 8)
theorem specName_F {N : Nat} {s : ByteArray} (hs : s.size < 9223372036854775808) (hN : 9223372036854775808 ≤ N) : F_spec_NameOk N s = some (okName s) := by
  simp only [F_spec_NameOk, F_spec_NameOkR, spec_NameOk_h1, spec_NameOk_x1_0]
  have hlen : s.data.toList.length = s.size := by simp
  have k := loop_list s.data.toList (fun n i => spec_NameOk_l1 (some (G_spec_l1In (s.size : Int) 1 8)) N s n i) (fun c => ilt (c.toNat : Int) 97 || ilt 122 (c.toNat : Int)) (some false) (some (G_spec_l1In (s.size : Int) 1 8)) ?_ ?_ (n := N) (by omega)
  · refine k.trans ?_
    simp only [okName, G_spec_l1In]
    cases s.data.toList.any (fun c => ilt (c.toNat : Int) 97 || ilt 122 (c.toNat : Int)) <;> simp
  · intro n i hi
    have hi' : i < s.size := by omega
    simp only [spec_NameOk_l1, spec_NameOk_l1s, ilt_nat, inb_nat, Int.toNat_natCast, hi', decide_true, Bool.true_or, cond_true, chk_true]
    rw [w64_succ (by omega), getB_data s i hi']
  · intro n
    simp only [spec_NameOk_l1, spec_NameOk_l1s, hlen, ilt_nat, Nat.lt_irrefl, decide_false, cond_false]
theorem implName_F {N : Nat} {s : ByteArray} (hs : s.size < 9223372036854775808) (hN : 9223372036854775808 ≤ N) : F_impl_isName N s = some (okName s) := by
  simp only [F_impl_isName, F_impl_isNameR, impl_isName_h1, impl_isName_x1_0]
  have hlen : s.data.toList.length = s.size := by simp
  have k := loop_list s.data.toList (fun n i => impl_isName_l1 (some (ile 1 (s.size : Int) && ile (s.size : Int) 8)) N s s.size n i) (fun c => ilt (c.toNat : Int) 97 || ilt 122 (c.toNat : Int)) (some false) (some (ile 1 (s.size : Int) && ile (s.size : Int) 8)) ?_ ?_ (n := N) (by omega)
  · refine k.trans ?_
    simp only [okName]
    cases s.data.toList.any (fun c => ilt (c.toNat : Int) 97 || ilt 122 (c.toNat : Int)) <;> simp
  · intro n i hi
    have hi' : i < s.size := by omega
    simp only [impl_isName_l1, impl_isName_l1s, ilt_nat, inb_nat, Int.toNat_natCast, hi', decide_true, Bool.true_or, cond_true, chk_true]
    rw [w64_succ (by omega), getB_data s i hi']
  · intro n
    simp only [impl_isName_l1, impl_isName_l1s, hlen, ilt_nat, Nat.lt_irrefl, decide_false, cond_false]
theorem isWord_eq {x : Int} : G_impl_isWord x = G_spec_l1Word x := by
  simp only [G_impl_isWord, G_impl_wrap, G_spec_l1Word, G_spec_l1In]
  rw [Bool.eq_iff_iff]
  simp only [ieq_eq, ile_eq, Bool.and_eq_true, decide_eq_true_eq, w64, IntKind.wrap, IntKind.bits, IntKind.signed, Bool.true_and, ge_iff_le]
  omega
theorem anyint64_impl_areGiven_c1_F {N : Nat} {xs : List Int} (hl : xs.length < 9223372036854775808) (hN : 9223372036854775808 ≤ N) (bad : Int → Bool) (hc : ∀ x ∈ xs, G_impl_areGiven_c1 x = bad x) : F_slices_ContainsFunc_int64_impl_areGiven_c1 N xs () = some (xs.any bad) := by
  have key : ∃ j : Int, F_slices_IndexFunc_int64_impl_areGiven_c1 N xs () = some j ∧ ile 0 j = xs.any bad := by
    simp only [F_slices_IndexFunc_int64_impl_areGiven_c1, F_slices_IndexFunc_int64_impl_areGiven_c1R, slices_IndexFunc_int64_impl_areGiven_c1_h1, slices_IndexFunc_int64_impl_areGiven_c1_x1_0]
    have k := loop_any xs.length (fun n i => slices_IndexFunc_int64_impl_areGiven_c1_l1 (some (-1)) N xs xs.length n i) (fun i => if hi : i < xs.length then bad xs[i] else false) (fun i => some (i : Int)) (some (-1)) ?_ ?_ N 0 (by omega) (by omega)
    · rcases k with ⟨j, _, h2, h3, _, h5⟩ | ⟨h1, h2⟩
      · refine ⟨j, h5, ?_⟩
        rw [ile_eq, decide_eq_true (by omega)]
        simp only [h2, dite_true] at h3
        exact (List.any_eq_true.2 ⟨xs[j], List.getElem_mem h2, h3⟩).symm
      · refine ⟨-1, h2, ?_⟩
        rw [show ile 0 (-1) = false from rfl]
        symm
        rw [List.any_eq_false]
        intro x hx
        obtain ⟨j, hj, rfl⟩ := List.getElem_of_mem hx
        have := h1 j (by omega) hj
        simp only [hj, dite_true] at this
        simp [this]
    · intro n i hi
      have hb := hc xs[i] (List.getElem_mem hi)
      simp only [slices_IndexFunc_int64_impl_areGiven_c1_l1, slices_IndexFunc_int64_impl_areGiven_c1_l1s, ilt_nat, inb_nat, Int.toNat_natCast, hi, dite_true, decide_true, cond_true, chk_true, getD_lt hi, hb]
      rw [w64_succ (by omega)]
    · intro n
      simp only [slices_IndexFunc_int64_impl_areGiven_c1_l1, slices_IndexFunc_int64_impl_areGiven_c1_l1s, ilt_nat, Nat.lt_irrefl, decide_false, cond_false]
  obtain ⟨j, h1, h2⟩ := key
  obtain ⟨h3, h4⟩ := PG_slices_IndexFunc_int64_impl_areGiven_c1 h1
  simp only [F_slices_ContainsFunc_int64_impl_areGiven_c1, h3, h4, chk_true, h2]
theorem three_F {N : Nat} {xs : List Int} (hl : xs.length < 9223372036854775808) (hN : 9223372036854775808 ≤ N) : F_spec_l8Three N xs = some (ieq xs.length 3 && !xs.any (fun x => !G_spec_l1Word x)) := by
  simp only [F_spec_l8Three, F_spec_l8ThreeR, spec_l8Three_h1, spec_l8Three_x1_0]
  have k := loop_list xs (fun n i => spec_l8Three_l1 (some (ieq (xs.length : Int) 3)) N xs n i) (fun x => !G_spec_l1Word x) (some false) (some (ieq (xs.length : Int) 3)) ?_ ?_ (n := N) (by omega)
  · refine k.trans ?_
    cases xs.any (fun x => !G_spec_l1Word x) <;> simp
  · intro n i hi
    simp only [spec_l8Three_l1, spec_l8Three_l1s, ilt_nat, inb_nat, Int.toNat_natCast, hi, decide_true, cond_true, chk_true, getD_lt hi]
    rw [w64_succ (by omega)]
  · intro n
    simp only [spec_l8Three_l1, spec_l8Three_l1s, ilt_nat, Nat.lt_irrefl, decide_false, cond_false]
theorem given_F {N : Nat} {xs : List Int} (hl : xs.length < 9223372036854775808) (hN : 9223372036854775808 ≤ N) : F_impl_areGiven N xs = some (ieq xs.length 3 && !xs.any (fun x => !G_spec_l1Word x)) := by
  obtain ⟨h1, h2⟩ := PG_slices_ContainsFunc_int64_impl_areGiven_c1 (anyint64_impl_areGiven_c1_F hl hN (fun x => !G_spec_l1Word x) (fun x _ => by simp only [G_impl_areGiven_c1, isWord_eq]))
  simp only [F_impl_areGiven, h1, h2, Bool.true_or, chk_true]
theorem order_same {N : Nat} (x : DOrder) (h4 : x.2.2.2.1.size < 9223372036854775808) (h5 : x.2.2.2.2.1.size < 9223372036854775808) (h9 : x.2.2.2.2.2.2.2.2.size < 9223372036854775808) (h8 : x.2.2.2.2.2.2.2.1.length < 9223372036854775808) (hN : 9223372036854775808 ≤ N) : ∃ b, F_spec_OrderOk N x = some b ∧ F_impl_OrderOk N x = some b := by
  obtain ⟨k, nd, nm, w, v, a, b, xs, s⟩ := x
  simp only at h4 h5 h8 h9
  obtain ⟨p1, g1⟩ := PG_spec_NameOk (specName_F h4 hN)
  obtain ⟨p2, g2⟩ := PG_spec_NameOk (specName_F h5 hN)
  obtain ⟨p3, g3⟩ := PG_spec_l8Three (three_F h8 hN)
  obtain ⟨p4, g4⟩ := PG_spec_l14Plain (l14Plain_F (b := 200) h9 hN)
  obtain ⟨p5, g5⟩ := PG_impl_isName (implName_F h4 hN)
  obtain ⟨p6, g6⟩ := PG_impl_isName (implName_F h5 hN)
  obtain ⟨p7, g7⟩ := PG_impl_areGiven (given_F h8 hN)
  have hc : P_strings_Contains s ⟨#[10]⟩ = true := by simp only [P_strings_Contains, decide_eq_true_eq]; rfl
  have hg : G_strings_Contains s ⟨#[10]⟩ = hasByte s 10 := rfl
  have e0 : (!ilt 0 (xs.length : Int)) = ieq xs.length 0 := by simp only [ilt_eq, ieq_eq]; rw [Bool.eq_iff_iff]; simp only [Bool.not_eq_true', decide_eq_false_iff_not, decide_eq_true_eq]; omega
  have e1 : ilt 0 (xs.length : Int) = !ieq xs.length 0 := by rw [← e0, Bool.not_not]
  have hS : F_spec_OrderOk N (k, nd, nm, w, v, a, b, xs, s) = some (
      (G_spec_l1In nd 0 3 && G_spec_l1In nm 1 100 && okName v) && (bif ieq k 4 then decide (w = ⟨#[]⟩) else okName w) && (bif ieq k 1 || ieq k 3 then G_spec_l1Word a else ieq a 0) && (bif ieq k 3 then G_spec_l1Word b else ieq b 0) &&
      (bif ieq k 5 then (ieq xs.length 3 && !xs.any (fun x => !G_spec_l1Word x)) else ieq xs.length 0) && G_spec_l1In k 1 6 && (bif ieq k 4 then (!hasByte s 10 && ile s.size 200) else decide (s = ⟨#[]⟩))) := by
    simp only [F_spec_OrderOk, p1, p2, p3, p4, g1, g2, g3, g4, Bool.true_or, chk_true, e1]
    cases G_spec_l1In nd 0 3 <;> cases G_spec_l1In nm 1 100 <;> cases okName v <;> try rfl
    cases ieq k 4 <;> cases decide (w = ⟨#[]⟩) <;> cases okName w <;> try rfl
    all_goals (cases ieq k 1 <;> cases ieq k 3 <;> cases G_spec_l1Word a <;> cases ieq a 0 <;> try rfl)
    all_goals (cases G_spec_l1Word b <;> cases ieq b 0 <;> try rfl)
    all_goals (cases ieq k 5 <;> cases (ieq (xs.length : Int) 3 && !xs.any (fun x => !G_spec_l1Word x)) <;> cases ieq (xs.length : Int) 0 <;> try rfl)
    all_goals (cases G_spec_l1In k 1 6 <;> cases (!hasByte s 10 && ile s.size 200) <;> cases decide (s = ⟨#[]⟩) <;> rfl)
  refine ⟨_, hS, ?_⟩
  have hI : F_impl_isOrder N (k, nd, nm, w, v, a, b, xs, s) = some (
      (G_impl_within k 1 6 && G_impl_within nd 0 3 && G_impl_within nm 1 100 && okName v) && (bif ieq k 4 then decide (w = ⟨#[]⟩) else okName w) && (bif ieq k 1 || ieq k 3 then G_impl_isWord a else ieq a 0) && (bif ieq k 3 then G_impl_isWord b else ieq b 0) &&
      (bif ieq k 5 then (ieq xs.length 3 && !xs.any (fun x => !G_spec_l1Word x)) else ieq xs.length 0) && (bif ieq k 4 then (ile s.size 200 && !hasByte s 10) else decide (s = ⟨#[]⟩))) := by
    simp only [F_impl_isOrder, F_impl_isOrderR, impl_isOrder_j1, impl_isOrder_j1R, impl_isOrder_j2, impl_isOrder_j2R, impl_isOrder_j3, impl_isOrder_j3R, impl_isOrder_j4, p5, p6, p7, g5, g6, g7, hc, hg, Bool.true_or, chk_true]
    cases ieq k 4 <;> cases ieq k 1 <;> cases ieq k 3 <;> cases ieq k 5 <;> rfl
  obtain ⟨q1, q2⟩ := PG_impl_isOrder hI
  simp only [F_impl_OrderOk, q1, q2, chk_true, isWord_eq, G_impl_within, G_spec_l1In]
  congr 1
  generalize (bif ieq k 4 then decide (w = ⟨#[]⟩) else okName w) = b1
  generalize (bif ieq k 1 || ieq k 3 then G_spec_l1Word a else ieq a 0) = b2
  generalize (bif ieq k 3 then G_spec_l1Word b else ieq b 0) = b3
  generalize (bif ieq k 5 then (ieq xs.length 3 && !xs.any (fun x => !G_spec_l1Word x)) else ieq xs.length 0) = b4
  rw [Bool.and_comm (!hasByte s 10) _]
  generalize (bif ieq k 4 then (ile (s.size : Int) 200 && !hasByte s 10) else decide (s = ⟨#[]⟩)) = b5
  cases (ile 1 k && ile k 6) <;> cases (ile 0 nd && ile nd 3) <;> cases (ile 1 nm && ile nm 100) <;> cases okName v <;> cases b1 <;> cases b2 <;> cases b3 <;> cases b4 <;> cases b5 <;> rfl
theorem law_F {N : Nat} (x : DOrder) (hw : tOrder.wf x) (hN : 9223372036854775808 ≤ N) : F_laws_FnExactOrderOk N x = some true := by
  have w4 : x.2.2.2.1.size < 9223372036854775808 := hw.2.2.2.1
  have w5 : x.2.2.2.2.1.size < 9223372036854775808 := hw.2.2.2.2.1
  have w8 : x.2.2.2.2.2.2.2.1.length < 9223372036854775808 := hw.2.2.2.2.2.2.2.1.1
  have w9 : x.2.2.2.2.2.2.2.2.size < 9223372036854775808 := hw.2.2.2.2.2.2.2.2.1
  simp only [F_laws_FnExactOrderOk]
  by_cases hz : ilt (G_laws_szOrder x 1048576) 0 = true
  · rw [hz]; rfl
  have hl : x.2.2.2.2.2.2.2.1.length ≤ 1048576 := by
    apply Classical.byContradiction
    intro hc
    apply hz
    simp only [G_laws_szOrder]
    rw [w64_of (x := 1048576 - (x.2.2.2.1.size : Int)) (by omega) (by omega)]
    by_cases c1 : (1048576 : Int) - (x.2.2.2.1.size : Int) < 0
    · rw [ilt_eq (1048576 - (x.2.2.2.1.size : Int)), decide_eq_true c1]; rfl
    rw [ilt_eq (1048576 - (x.2.2.2.1.size : Int)), decide_eq_false c1, cond_false]
    rw [w64_of (x := 1048576 - (x.2.2.2.1.size : Int) - (x.2.2.2.2.1.size : Int)) (by omega) (by omega)]
    by_cases c2 : (1048576 : Int) - (x.2.2.2.1.size : Int) - (x.2.2.2.2.1.size : Int) < 0
    · rw [ilt_eq (1048576 - (x.2.2.2.1.size : Int) - (x.2.2.2.2.1.size : Int)), decide_eq_true c2]; rfl
    rw [ilt_eq (1048576 - (x.2.2.2.1.size : Int) - (x.2.2.2.2.1.size : Int)), decide_eq_false c2, cond_false]
    rcases szInt64S_le (xs := x.2.2.2.2.2.2.2.1) (v := 1048576 - (x.2.2.2.1.size : Int) - (x.2.2.2.2.1.size : Int)) (by omega) (by omega) with ⟨e, _⟩ | ⟨_, e⟩
    · rw [e]; rfl
    · omega
  rw [Bool.not_eq_true] at hz
  rw [hz, cond_false]
  obtain ⟨h8, h9⟩ := PG_laws_toInt64S (toInt64S_F (N := N) (xs := x.2.2.2.2.2.2.2.1) hl hN)
  have h10 : F_laws_toOrder N x = some x := by simp only [F_laws_toOrder, h8, h9, chk_true]
  obtain ⟨h11, h12⟩ := PG_laws_toOrder h10
  obtain ⟨b, h13, h14⟩ := order_same (N := N) x w4 w5 w9 w8 hN
  obtain ⟨h15, h16⟩ := PG_spec_OrderOk h13
  obtain ⟨h17, h18⟩ := PG_impl_OrderOk h14
  obtain ⟨h19, h20⟩ := PG_laws_eqInt64S (eqInt64S_F (N := N) (xs := x.2.2.2.2.2.2.2.1) w8 hN)
  have h21 : F_laws_eqOrder N x x = some true := by
    simp only [F_laws_eqOrder, h19, h20, chk_true, ieq_eq]
    simp
  obtain ⟨h22, h23⟩ := PG_laws_eqOrder h21
  simp only [h11, h12, h15, h16, h17, h18, h22, h23, chk_true]
  simp
end Go.Proofs.Ytfeedfknflbpjaa.AM
