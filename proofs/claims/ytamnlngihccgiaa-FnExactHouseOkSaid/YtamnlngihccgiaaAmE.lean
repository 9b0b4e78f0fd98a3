/- The rest of the operations that leave the heap alone. -/
import Derived.Test.YtamnlngihccgiaaAmD
namespace Go.Proofs.Ytamnlngihccgiaa.AM
set_option linter.all false
open Go
section
variable {P : Program} {nt : Nat} {ρ : Ren} {fr : Fr} {a : Act} {H : AH} {w : World} {o : Oper} {K : AV → AH → Prop} {pw rd : Nat → Prop}

theorem bytes_beq (x y : ByteArray) : (x.toList == y.toList) = decide (x = y) := by
  have h : x.toList = y.toList ↔ x = y := by
    constructor
    · intro e
      have e2 : x.data.toList = y.data.toList := by simpa [ByteArray.toList_eq] using e
      cases x; cases y
      simp only [ByteArray.mk.injEq]
      exact Array.toList_inj.1 e2
    · rintro rfl; rfl
  rw [Bool.eq_iff_iff]
  simp [h]

theorem g_bin (hf : FrOk ρ fr a) (hs : a.tmps.size = nt) (h0 : ρ 0 = some none) {op : BinOp} {x y : Od} (hc : checkOp P nt o.op (.bin op x y) = true)
    (h : aop (env P) pw rd (.bin op x y) fr H K) : Gives P rd ρ H w a o K := by
  simp only [checkOp] at hc
  split at hc
  case h_2 => cases hc
  rename_i op' t x' y' t2 e
  simp only [Bool.and_eq_true, beq_iff_eq] at hc
  obtain ⟨⟨⟨rfl, ht⟩, h1⟩, h2⟩ := hc
  have r1 := odOk.VR hf hs h0 h1
  have r2 := odOk.VR hf hs h0 h2
  simp only [aop] at h
  unfold abin at h
  have guard : ∀ w', (eqGuard op t x' y' (a.eval x') (a.eval y')).run P w' = .ok () w' := fun w' => by
    unfold eqGuard
    split at h
    · rename_i e1 e2
      rw [e1] at r1; rw [e2] at r2
      simp only [VR] at r1 r2
      rw [r1, r2]
      split <;> simp
    · rename_i e1 e2
      rw [e1] at r1; rw [e2] at r2
      simp only [VR] at r1 r2
      rw [r1, r2]
      split <;> simp
    · exact h.elim
  split at h
  · rename_i k p k' q e1 e2
    rw [e1] at r1; rw [e2] at r2
    simp only [VR] at r1 r2
    rw [r1, r2] at guard
    cases op <;> simp only at h
    case shl =>
      obtain ⟨hb, h⟩ := h
      exact ⟨_, _, h, vr_n, fun w' _ => by simp [execOp, e, guard, r1, r2, binOp, Op.shift, Int.not_lt.2 hb]⟩
    case shr =>
      obtain ⟨hb, h⟩ := h
      exact ⟨_, _, h, vr_n, fun w' _ => by simp [execOp, e, guard, r1, r2, binOp, Op.shift, Int.not_lt.2 hb]⟩
    case quo =>
      obtain ⟨rfl, hb, h⟩ := h
      exact ⟨_, _, h, vr_n, fun w' _ => by simp [execOp, e, guard, r1, r2, binOp, Op.intDiv, hb]⟩
    case rem =>
      obtain ⟨rfl, hb, h⟩ := h
      exact ⟨_, _, h, vr_n, fun w' _ => by simp [execOp, e, guard, r1, r2, binOp, Op.intDiv, hb]⟩
    case eql => obtain ⟨rfl, h⟩ := h; exact ⟨_, _, h, vr_b, fun w' _ => by simp [execOp, e, guard, r1, r2, binOp, Op.intCmp]; rfl⟩
    case neq => obtain ⟨rfl, h⟩ := h; exact ⟨_, _, h, vr_b, fun w' _ => by simp [execOp, e, guard, r1, r2, binOp, Op.intCmp, bne]; rfl⟩
    case lss => obtain ⟨rfl, h⟩ := h; exact ⟨_, _, h, vr_b, fun w' _ => by simp [execOp, e, guard, r1, r2, binOp, Op.intCmp]⟩
    case leq => obtain ⟨rfl, h⟩ := h; exact ⟨_, _, h, vr_b, fun w' _ => by simp [execOp, e, guard, r1, r2, binOp, Op.intCmp]⟩
    case gtr => obtain ⟨rfl, h⟩ := h; exact ⟨_, _, h, vr_b, fun w' _ => by simp [execOp, e, guard, r1, r2, binOp, Op.intCmp]⟩
    case geq => obtain ⟨rfl, h⟩ := h; exact ⟨_, _, h, vr_b, fun w' _ => by simp [execOp, e, guard, r1, r2, binOp, Op.intCmp]⟩
    case add => obtain ⟨rfl, h⟩ := h; exact ⟨_, _, h, vr_n, fun w' _ => by simp [execOp, e, guard, r1, r2, binOp, Op.intArith]⟩
    case sub => obtain ⟨rfl, h⟩ := h; exact ⟨_, _, h, vr_n, fun w' _ => by simp [execOp, e, guard, r1, r2, binOp, Op.intArith]⟩
    case mul => obtain ⟨rfl, h⟩ := h; exact ⟨_, _, h, vr_n, fun w' _ => by simp [execOp, e, guard, r1, r2, binOp, Op.intArith]⟩
    all_goals
      obtain ⟨rfl, h⟩ := h
      exact ⟨_, _, h, vr_n, fun w' _ => by simp [execOp, e, guard, r1, r2, binOp, Op.intBits, bitsv]⟩
  · rename_i p q e1 e2
    rw [e1] at r1; rw [e2] at r2
    simp only [VR] at r1 r2
    rw [r1, r2] at guard
    cases op <;> simp only at h
    case add =>
      obtain ⟨hb, h⟩ := h
      refine ⟨_, _, h, vr_s, fun w' _ => ?_⟩
      have hb' : ¬ ((p.size + q.size : Nat) : Int) > IntKind.i64.max := by simp [IntKind.max, IntKind.signed, IntKind.bits]; omega
      simp only [execOp, e, Sem.run_bind, guard, Result.andThen_ok, r1, r2, binOp, Op.stringOp]
      rw [if_neg hb']
      rfl
    case eql => exact ⟨_, _, h, vr_b, fun w' _ => by simp [execOp, e, guard, r1, r2, binOp, Op.stringOp, bytes_beq]⟩
    case neq => exact ⟨_, _, h, vr_b, fun w' _ => by simp [execOp, e, guard, r1, r2, binOp, Op.stringOp, bytes_beq]⟩
    case lss => exact ⟨_, _, h, vr_b, fun w' _ => by simp [execOp, e, guard, r1, r2, binOp, Op.stringOp]⟩
    case leq => exact ⟨_, _, h, vr_b, fun w' _ => by simp [execOp, e, guard, r1, r2, binOp, Op.stringOp, bytes_beq]⟩
    case gtr => exact ⟨_, _, h, vr_b, fun w' _ => by simp [execOp, e, guard, r1, r2, binOp, Op.stringOp, bytes_beq]⟩
    case geq => exact ⟨_, _, h, vr_b, fun w' _ => by simp [execOp, e, guard, r1, r2, binOp, Op.stringOp]⟩
  · exact h.elim

theorem eqIn_bool {t : TypeId} (hu : P.underlying t = some .bool) (d : Nat) (p q : Bool) (w : World) : (Op.equalIn (d + 1) t (.bool p) (.bool q)).run P w = .ok (p == q) w := by
  simp [Op.equalIn, run_underlying hu]

theorem g_beq (hf : FrOk ρ fr a) (hs : a.tmps.size = nt) (h0 : ρ 0 = some none) {neg : Bool} {x y : Od} (hc : checkOp P nt o.op (.beq neg x y) = true)
    (h : aop (env P) pw rd (.beq neg x y) fr H K) : Gives P rd ρ H w a o K := by
  simp only [checkOp] at hc
  split at hc
  case h_2 => cases hc
  rename_i op' t x' y' t2 e
  simp only [Bool.and_eq_true, beq_iff_eq] at hc
  obtain ⟨⟨⟨rfl, ht⟩, h1⟩, h2⟩ := hc
  have r1 := odOk.VR hf hs h0 h1
  have r2 := odOk.VR hf hs h0 h2
  simp only [aop] at h
  split at h
  case h_2 => exact h.elim
  rename_i p q e1 e2
  rw [e1] at r1; rw [e2] at r2
  simp only [VR] at r1 r2
  unfold tyBool at ht
  split at ht
  case h_2 => cases ht
  rename_i hu
  refine ⟨_, _, h, vr_b, fun w' _ => ?_⟩
  have hq : (Op.equal t (.bool p) (.bool q)).run P w' = .ok (p == q) w' := eqIn_bool hu 9999 p q w'
  cases neg <;> simp [execOp, e, r1, r2, eqGuard, binOp, hq]
end
end Go.Proofs.Ytamnlngihccgiaa.AM
