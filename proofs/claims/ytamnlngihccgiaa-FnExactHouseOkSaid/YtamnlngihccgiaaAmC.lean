/- The operations of the abstract machine that leave the heap alone: each does what the model's operation does, in every world that agrees on what it reads. -/
import Derived.Test.YtamnlngihccgiaaAmB
import Derived.DeepKeys
import Derived.Laws.IdiomCopy
import Derived.WideLaws
namespace Go.Proofs.Ytamnlngihccgiaa.AM
set_option linter.all false
open Go

/-! ### Constants and operands -/
mutual
def valOk : AV → Value → Bool
  | .b y, .bool x => x == y
  | .n k' y, .int k x => k == k' && x == y
  | .s y, .string x => x.data == y.data
  | .pn, .pointer none => true
  | .l 0 0 0, .slice none 0 0 => true
  | .en, .nilIface => true
  | .a cs, .agg vs => valsOk cs vs.toList
  | .t cs, .tuple vs => valsOk cs vs.toList
  | _, _ => false
def valsOk : List AV → List Value → Bool
  | [], [] => true
  | c :: cs, v :: vs => valOk c v && valsOk cs vs
  | _, _ => false
end

mutual
theorem VR.of_valOk {ρ : Ren} (h0 : ρ 0 = some none) : ∀ (x : AV) (v : Value), valOk x v = true → VR ρ x v
  | .b y, v, h => by cases v <;> simp [valOk] at h; simp [VR, h]
  | .n k y, v, h => by cases v <;> simp [valOk] at h; simp [VR, h]
  | .s y, v, h => by
    cases v <;> simp [valOk] at h
    rename_i x
    cases x; cases y
    simp only at h
    simp [VR, h]
  | .pn, v, h => by
    unfold valOk at h
    split at h <;> simp_all [VR]
  | .l id i n, v, h => by
    unfold valOk at h
    split at h <;> simp_all [VR, SlR]
  | .en, v, h => by
    unfold valOk at h
    split at h <;> simp_all [VR]
  | .a cs, v, h => by
    cases v <;> simp [valOk] at h
    rename_i vs
    simp only [VR]
    exact ⟨vs.toList, by simp, VRs.of_valsOk h0 _ _ h⟩
  | .t cs, v, h => by
    cases v <;> simp [valOk] at h
    rename_i vs
    simp only [VR]
    exact ⟨vs.toList, by simp, VRs.of_valsOk h0 _ _ h⟩
  | .p .., v, h => by cases v <;> simp [valOk] at h
  | .q _, v, h => by cases v <;> simp [valOk] at h
  | .pq .., v, h => by cases v <;> simp [valOk] at h
  | .f .., v, h => by cases v <;> simp [valOk] at h
  | .e .., v, h => by cases v <;> simp [valOk] at h
  | .u, v, h => by simp [VR]
theorem VRs.of_valsOk {ρ : Ren} (h0 : ρ 0 = some none) : ∀ (xs : List AV) (vs : List Value), valsOk xs vs = true → VRs ρ xs vs
  | [], vs, h => by cases vs <;> simp [valsOk] at h; simp [VRs]
  | x :: xs, vs, h => by
    cases vs with
    | nil => simp [valsOk] at h
    | cons v r =>
      simp [valsOk] at h
      simp only [VRs]
      exact ⟨v, r, rfl, VR.of_valOk h0 _ _ h.1, VRs.of_valsOk h0 _ _ h.2⟩
end

def odOk (nt : Nat) : Operand → Od → Bool
  | .tmp t, .t k => t == k && decide (t < nt)
  | .const v, .c x => valOk x v
  | .func g, .c (.f h cap) => g == h && cap.isEmpty
  | _, _ => false
def odsOk (nt : Nat) : List Operand → List Od → Bool
  | [], [] => true
  | x :: xs, y :: ys => odOk nt x y && odsOk nt xs ys
  | _, _ => false
def odoOk (nt : Nat) : Option Operand → Option Od → Bool
  | none, none => true
  | some x, some y => odOk nt x y
  | _, _ => false

theorem odOk.VR {nt : Nat} {ρ : Ren} {fr : Fr} {a : Act} (hf : FrOk ρ fr a) (hs : a.tmps.size = nt) (h0 : ρ 0 = some none) {x : Operand} {y : Od} (h : odOk nt x y = true) :
    VR ρ (fr.ev y) (a.eval x) := by
  unfold odOk at h
  split at h
  · rename_i t k
    simp only [Bool.and_eq_true, beq_iff_eq, decide_eq_true_eq] at h
    obtain ⟨rfl, ht⟩ := h
    exact hf t (by rw [hs]; exact ht)
  · exact VR.of_valOk h0 _ _ h
  · rename_i g hh cap
    simp only [Bool.and_eq_true, beq_iff_eq, List.isEmpty_iff] at h
    obtain ⟨rfl, rfl⟩ := h
    simp only [Fr.ev, AM.VR, Act.eval]
    exact ⟨[], rfl, rfl⟩
  · cases h
theorem odsOk.VRs {nt : Nat} {ρ : Ren} {fr : Fr} {a : Act} (hf : FrOk ρ fr a) (hs : a.tmps.size = nt) (h0 : ρ 0 = some none) : ∀ {xs : List Operand} {ys : List Od}, odsOk nt xs ys = true →
    VRs ρ (ys.map fr.ev) (xs.map a.eval)
  | [], [], _ => by simp [AM.VRs]
  | [], _ :: _, h => by simp [odsOk] at h
  | _ :: _, [], h => by simp [odsOk] at h
  | x :: xs, y :: ys, h => by
    simp only [odsOk, Bool.and_eq_true] at h
    simp only [List.map_cons, AM.VRs]
    exact ⟨_, _, rfl, odOk.VR hf hs h0 h.1, odsOk.VRs hf hs h0 h.2⟩

/-! ### Types -/
def tySize (P : Program) (t : TypeId) : Option Nat := (P.info? t).map (·.size)
def tyAgg (P : Program) (t : TypeId) : Option Bool := (P.underlying t).map fun d => match d with
  | .struct _ | .array _ _ => true
  | _ => false
theorem run_isAgg' {P : Program} {t : TypeId} {b : Bool} (h : tyAgg P t = some b) (w : World) : (isAgg t).run P w = .ok b w := by
  unfold tyAgg at h
  cases hu : P.underlying t with
  | none => simp [hu] at h
  | some d =>
    simp only [hu, Option.map_some, Option.some.injEq] at h
    subst h
    simp only [isAgg, Sem.run_bind, run_underlying hu, Result.andThen_ok]
    cases d <;> rfl
theorem run_sizeOf' {P : Program} {t : TypeId} {n : Nat} (h : tySize P t = some n) (w : World) : (sizeOf t).run P w = .ok n w := by
  unfold tySize at h
  cases hu : P.info? t with
  | none => simp [hu] at h
  | some d =>
    simp only [hu, Option.map_some, Option.some.injEq] at h
    subst h
    simp [sizeOf, typeInfo, hu]

/-! ### What a load reads -/
structure Agree (rd : Nat → Prop) (ρ : Ren) (w w' : World) : Prop where
  l : ∀ id l, rd id → ρ id = some (some l) → w'.heap[l.b]? = w.heap[l.b]?
  c : rd 0 → ∀ b o v, ρ.con b o = some v → w'.heap[b]? = w.heap[b]?
theorem Agree.refl (rd : Nat → Prop) (ρ : Ren) (w : World) : Agree rd ρ w w := ⟨fun _ _ _ _ => rfl, fun _ _ _ _ _ => rfl⟩
theorem cell?_same {w w' : World} {b : Nat} (h : w'.heap[b]? = w.heap[b]?) (o : Nat) : w'.cell? ⟨b, o, none⟩ = w.cell? ⟨b, o, none⟩ := by
  simp only [World.cell?, h]
theorem frozen?_same {w w' : World} {b : Nat} (h : w'.heap[b]? = w.heap[b]?) (o : Nat) : w'.frozen? ⟨b, o, none⟩ = w.frozen? ⟨b, o, none⟩ := by
  simp only [World.frozen?, h]

theorem add_addr (b o i : Nat) : (⟨b, o, none⟩ : Addr).add i = ⟨b, o + i, none⟩ := by
  unfold Addr.add
  split
  · rename_i h; rw [h]; rfl
  · rfl

theorem BlkOk.loads {P : Program} {ρ : Ren} {w w' : World} {l : Loc} {B : Blk} (hB : BlkOk ρ w l B) (hw : w'.heap[l.b]? = w.heap[l.b]?) {i j sz : Nat} {r : List AV} {ag : Bool} {v : AV}
    (hr : B.rows[i]? = some r) (hp : partv ag sz j r = some v) {t : TypeId} (hs : tySize P t = some sz) (ha : tyAgg P t = some ag) :
    ∃ cv, (loadVar t ⟨l.b, l.off + i * l.k + j, none⟩).run P w' = .ok cv w' ∧ VR ρ v cv := by
  have hc : ∀ (jj : Nat) (x : AV), r[jj]? = some x → ∃ cv, w'.cell? ⟨l.b, l.off + i * l.k + jj, none⟩ = some cv ∧ VR ρ x cv := fun jj x hx => by
    rw [cell?_same hw]; exact hB.cel i r hr jj x hx
  unfold partv at hp
  split at hp
  case isFalse => cases hp
  rename_i hle
  simp only [loadVar, Sem.run_bind, run_isAgg' ha, Result.andThen_ok]
  cases ag with
  | true =>
    simp only [if_true, Option.some.injEq] at hp
    subst hp
    simp only [if_true, Sem.run_bind, run_sizeOf' hs, Result.andThen_ok]
    -- the cells, one by one
    have hex : ∃ vs : List Value, vs.length = sz ∧ ∀ (jj : Nat) (x : AV), ((r.drop j).take sz)[jj]? = some x → ∃ cv, vs[jj]? = some cv ∧ w'.cell? ⟨l.b, l.off + i * l.k + (j + jj), none⟩ = some cv ∧ VR ρ x cv := by
      refine ⟨(List.range sz).map fun jj => (w'.cell? ⟨l.b, l.off + i * l.k + (j + jj), none⟩).getD undef, by simp, fun jj x hx => ?_⟩
      have hlt : jj < sz := by
        rcases Nat.lt_or_ge jj sz with h | h
        · exact h
        · simp [List.getElem?_take, Nat.not_lt.2 h] at hx
      have hx' : r[j + jj]? = some x := by simpa [List.getElem?_take, hlt, List.getElem?_drop] using hx
      obtain ⟨cv, h1, h2⟩ := hc _ _ hx'
      exact ⟨cv, by simp [hlt, h1], h1, h2⟩
    obtain ⟨vs, hlen, hvs⟩ := hex
    have hlr : ((r.drop j).take sz).length = sz := by simp; omega
    have hld := run_loadCells_list (P := P) w' ⟨l.b, l.off + i * l.k + j, none⟩ vs (fun jj v hv => by
      have hjj : jj < sz := by have := (List.getElem?_eq_some_iff.1 hv).1; omega
      obtain ⟨x, hx⟩ : ∃ x, ((r.drop j).take sz)[jj]? = some x := ⟨_, List.getElem?_eq_getElem (by omega)⟩
      obtain ⟨cv, h1, h2, _⟩ := hvs jj x hx
      rw [add_addr, Nat.add_assoc]
      rw [h1] at hv
      rw [h2, hv])
    rw [hlen] at hld
    rw [hld]
    refine ⟨_, rfl, ?_⟩
    simp only [VR]
    exact ⟨vs, rfl, VRs.of_get (by omega) fun jj x hx => let ⟨cv, h1, _, h3⟩ := hvs jj x hx; ⟨cv, h1, h3⟩⟩
  | false =>
    simp only [Bool.false_eq_true, if_false] at hp
    obtain ⟨cv, h1, h2⟩ := hc j v hp
    refine ⟨cv, ?_, h2⟩
    simp [h1]

/-- What a load of a row's part yields, wherever its cells hold what they hold. -/
theorem load_all {P : Program} {ρ : Ren} {r : List AV} {vs : List Value} (hv : VRs ρ r vs) {j sz : Nat} {ag : Bool} {v : AV} (hp : partv ag sz j r = some v) {t : TypeId} (hs : tySize P t = some sz) (ha : tyAgg P t = some ag) :
    ∃ cv, VR ρ v cv ∧ ∀ (b o : Nat) (w : World), (∀ (i : Nat) u, vs[i]? = some u → w.cell? ⟨b, o + i, none⟩ = some u) → (loadVar t ⟨b, o + j, none⟩).run P w = .ok cv w := by
  have hlen := hv.length
  unfold partv at hp
  split at hp
  case isFalse => cases hp
  rename_i hle
  cases ag with
  | true =>
    simp only [if_true, Option.some.injEq] at hp
    subst hp
    refine ⟨.agg ((vs.drop j).take sz).toArray, by simp only [VR]; exact ⟨_, rfl, (hv.drop _).take _⟩, fun b o w hc => ?_⟩
    simp only [loadVar, Sem.run_bind, run_isAgg' ha, Result.andThen_ok, if_true, run_sizeOf' hs]
    have hld := run_loadCells_list (P := P) w ⟨b, o + j, none⟩ ((vs.drop j).take sz) (fun jj u hu => by
      have hjj : jj < sz := by
        rcases Nat.lt_or_ge jj sz with h | h
        · exact h
        · simp [List.getElem?_take, Nat.not_lt.2 h] at hu
      have hu' : vs[j + jj]? = some u := by simpa [List.getElem?_take, hjj, List.getElem?_drop] using hu
      rw [add_addr, Nat.add_assoc]
      exact hc _ _ hu')
    have hl : ((vs.drop j).take sz).length = sz := by simp; omega
    rw [hl] at hld
    rw [hld]
    rfl
  | false =>
    simp only [Bool.false_eq_true, if_false] at hp
    obtain ⟨cv, h1, h2⟩ := hv.get _ _ hp
    refine ⟨cv, h2, fun b o w hc => ?_⟩
    simp only [loadVar, Sem.run_bind, run_isAgg' ha, Result.andThen_ok, Bool.false_eq_true, if_false, run_load, hc _ _ h1]

theorem Rel.row {ρ : Ren} {H : AH} {w : World} (hR : Rel ρ H w) {id i : Nat} {r : List AV} (h : H.row id i = some r) :
    ∃ B, H.m id = some B ∧ B.rows[i]? = some r ∧ ∃ l, ρ id = some (some l) ∧ BlkOk ρ w l B := by
  simp only [AH.row, AH.get, Option.bind_eq_some_iff] at h
  obtain ⟨B, hB, hr⟩ := h
  obtain ⟨x, hx, hm⟩ := hR.blk id B hB
  cases x with
  | none => simp only at hm; rw [hm] at hr; simp at hr
  | some l => exact ⟨B, hB, hr, l, hx, hm⟩
end Go.Proofs.Ytamnlngihccgiaa.AM
