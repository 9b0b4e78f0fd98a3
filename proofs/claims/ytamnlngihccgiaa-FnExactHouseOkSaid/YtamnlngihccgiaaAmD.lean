/- The check that an operation of the abstract machine stands for one of the model's, and that those which leave the heap alone do what the model's do. -/
import Derived.Test.YtamnlngihccgiaaAmC
namespace Go.Proofs.Ytamnlngihccgiaa.AM
set_option linter.all false
open Go

def EqOk (P : Program) (t : TypeId) (ks : List Nat) : Prop :=
  ∀ (w : World) (ρ : Ren) (xs ys : List AV) (vs us : List Value) (r : Bool), xs.map AV.kd = ks → ys.map AV.kd = ks → VRs ρ xs vs → VRs ρ ys us → sceqs xs ys = some r →
    (Op.equal t (.agg vs.toArray) (.agg us.toArray)).run P w = .ok r w

def okFn (P : Program) (f : FuncId) : Bool :=
  match P.funcs[f]? with
  | some fn => fn.body.isSome && !(fn.name == "runtime.NumGoroutine")
  | none => false

def env (P : Program) : Env := ⟨fun f args H R => okFn P f = true ∧ Ct P f args H R, EqOk P⟩

def tyBase (P : Program) (t : TypeId) : Bool := match P.underlying t with
  | some .bool | some (.int _) | some .string => true
  | _ => false
def tyBool (P : Program) (t : TypeId) : Bool := match P.underlying t with
  | some .bool => true
  | _ => false
def tyInt (P : Program) (t : TypeId) : Option IntKind := match P.underlying t with
  | some (.int k) => some k
  | _ => none
def tyStr (P : Program) (t : TypeId) : Bool := match P.underlying t with
  | some .string => true
  | _ => false
def tyElem (P : Program) (t : TypeId) : Option TypeId := match P.underlying t with
  | some (.slice e) => some e
  | _ => none
def tyStruct (P : Program) (t : TypeId) : Bool := match P.underlying t with
  | some (.struct _) => true
  | _ => false
def tyIface (P : Program) (t : TypeId) : Bool := match P.underlying t with
  | some (.interface _) => true
  | some _ => false
  | none => true
def tyField (P : Program) (t : TypeId) (f : Nat) : Option (Nat × TypeId) := match P.underlying t with
  | some (.struct fs) => (fs[f]?).map fun f => (f.offset, f.type)
  | _ => none
def tyZero (P : Program) (t : TypeId) : Option Value := (P.info? t).bind (·.zero)
def tyBytes (P : Program) (t : TypeId) : Option Nat := (P.info? t).map (·.bytes)
def nilOk (P : Program) (kd : Nat) (t : TypeId) (c : Operand) : Bool :=
  match kd with
  | 0 => match P.underlying t, c with
    | some (.pointer _), .const (.pointer none) => true
    | _, _ => false
  | 1 => match P.underlying t, c with
    | some (.interface _), .const .nilIface => true
    | _, _ => false
  | _ => match P.underlying t, c with
    | some (.slice _), .const (.slice none 0 0) => true
    | _, _ => false

def placesOf (P : Program) (t : TypeId) : Option (List (Nat × Nat)) := match P.underlying t with
  | some (.struct fs) => fs.toList.mapM fun f => (P.info? f.type).map fun i => (f.offset, i.size)
  | _ => none
def partsMatch (P : Program) (nt : Nat) (t : TypeId) : List (Nat × Operand) → List (Nat × Nat × Od) → Bool
  | [], [] => true
  | (f, x) :: r, (off, sz, y) :: r' => (match tyField P t f with
    | some (o, ft) => o == off && tySize P ft == some sz
    | none => false) && odOk nt x y && partsMatch P nt t r r'
  | _, _ => false
def rowsMatch (nt : Nat) : Nat → List (Nat × Operand) → List Od → Bool
  | _, [], [] => true
  | i, (j, x) :: r, y :: r' => i == j && odOk nt x y && rowsMatch nt (i + 1) r r'
  | _, _, _ => false

/-- Does the operation x stand for op? 'nt': how many temporaries there are. -/
def checkOp (P : Program) (nt : Nat) (op : Op) (x : AOp) : Bool :=
  match x with
  | .mov y => match op with
    | .move z | .assign z => odOk nt z y
    | _ => false
  | .pick c a b => match op with
    | .pick c' a' b' => odOk nt c' c && odOk nt a' a && odOk nt b' b
    | _ => false
  | .bin o a b => match op with
    | .binOp o' t a' b' _ => o == o' && tyBase P t && odOk nt a' a && odOk nt b' b
    | _ => false
  | .beq neg a b => match op with
    | .binOp o t a' b' _ => (o == (if neg then .neq else .eql)) && tyBool P t && odOk nt a' a && odOk nt b' b
    | _ => false
  | .eqs neg ty a b => match op with
    | .binOp o t a' b' _ => (o == (if neg then .neq else .eql)) && t == ty && tyStruct P t && !(P.eqGuardType P.depth t) && odOk nt a' a && odOk nt b' b
    | _ => false
  | .eqn kd neg a => match op with
    | .binOp o t a' b' _ => (o == (if neg then .neq else .eql)) && nilOk P kd t b' && odOk nt a' a
    | _ => false
  | .un o a => match op with
    | .unOp o' _ a' => o == o' && odOk nt a' a
    | _ => false
  | .conv k a => match op with
    | .convert s d a' => (tyInt P s).isSome && tyInt P d == some k && odOk nt a' a
    | _ => false
  | .bts a => match op with
    | .convert s d a' => (match tyElem P s with
      | some e => tyInt P e == some .u8
      | none => false) && tyStr P d && odOk nt a' a
    | _ => false
  | .fld off sz ag a => match op with
    | .field t a' f => (match tyField P t f with
      | some (o, ft) => o == off && tySize P ft == some sz && tyAgg P ft == some ag
      | none => false) && odOk nt a' a
    | _ => false
  | .ext ix a => match op with
    | .extract a' ix' => ix == ix' && odOk nt a' a
    | _ => false
  | .nilc a => match op with
    | .nilCheck a' => odOk nt a' a
    | _ => false
  | .fad off a => match op with
    | .fieldAddr t a' f => (match tyField P t f with
      | some (o, ft) => o == off && (match tySize P ft with
        | some n => n != 0
        | none => false)
      | none => false) && odOk nt a' a
    | _ => false
  | .iad k a i => match op with
    | .indexAddr t a' i' => (match tyElem P t with
      | some e => tySize P e == some k
      | none => false) && odOk nt a' a && odOk nt i' i
    | _ => false
  | .idx a i => match op with
    | .index t a' i' => tyStr P t && odOk nt a' a && odOk nt i' i
    | _ => false
  | .sls k a lo hi => match op with
    | .slice t a' lo' hi' none => (match tyElem P t with
      | some e => tySize P e == some k
      | none => false) && odOk nt a' a && odoOk nt lo' lo && odoOk nt hi' hi
    | _ => false
  | .sst a lo hi => match op with
    | .slice t a' lo' hi' none => tyStr P t && odOk nt a' a && odoOk nt lo' lo && odoOk nt hi' hi
    | _ => false
  | .load sz ag a => match op with
    | .load t a' => tySize P t == some sz && tyAgg P t == some ag && odOk nt a' a
    | _ => false
  | .stor sz a v => match op with
    | .store t a' v' => tySize P t == some sz && odOk nt a' a && odOk nt v' v
    | _ => false
  | .box v => match op with
    | .box _ v' => odOk nt v' v
    | _ => false
  | .aloc zero => match op with
    | .alloc t => (match tyZero P t with
      | some z => valsOk zero z.cells.toList
      | none => false)
    | _ => false
  | .bld zero parts => match op with
    | .build t ps => (placesOf P t).isSome && (match tyZero P t with
      | some z => valsOk zero z.cells.toList
      | none => false) && partsMatch P nt t ps.toList parts
    | _ => false
  | .bsl k rows => match op with
    | .buildSlice t n ps => (match tyElem P t with
      | some e => tySize P e == some k && (match tyZero P e with
        | some z => z.cells.size == k && k != 0
        | none => false)
      | none => false) && n == rows.length && decide (n * k ≤ 16777216) && rowsMatch nt 0 ps.toList rows
    | _ => false
  | .mks by_ zero len => match op with
    | .makeSlice t l c => odOk nt l len && odOk nt c len && (match tyElem P t with
      | some e => tyBytes P e == some by_ && tySize P e == some zero.length && zero.length != 0 && (match tyZero P e with
        | some z => valsOk zero z.cells.toList
        | none => false)
      | none => false)
    | _ => false
  | .mkf g cap => match op with
    | .makeFunc (.func g') first cap' => g == g' && first.isEmpty && odsOk nt cap'.toList cap
    | _ => false
  | .call f args | .callm f args => match op with
    | .call { callee := .value f', args := args', .. } => odOk nt f' f && odsOk nt args'.toList args
    | _ => false
  | .app by_ k x y => match op with
    | .call { callee := .builtin .append, args := args', argTypes := ts } => odsOk nt args'.toList [x, y] && (match ts.toList with
      | [t, t'] => (match tyElem P t with
        | some e => tyBytes P e == some by_ && by_ != 0 && tySize P e == some k && k != 0 && (match tyZero P e with
          | some z => z.cells.size == k
          | none => false)
        | none => false) && (tyElem P t').isSome
      | _ => false)
    | _ => false
  | .apps _ _ => false
  | .cpy k x y => match op with
    | .call { callee := .builtin .copy, args := args', argTypes := ts } => odsOk nt args'.toList [x, y] && (match ts.toList with
      | [t, t'] => (match tyElem P t with
        | some e => tySize P e == some k
        | none => false) && (tyElem P t').isSome
      | _ => false)
    | _ => false
  | .len str x => match op with
    | .call { callee := .builtin .len, args := args', argTypes := ts } => odsOk nt args'.toList [x] && (match ts.toList with
      | [t] => if str then tyStr P t else (tyElem P t).isSome
      | _ => false)
    | _ => false
  | .mm mx xs => match op with
    | .call { callee := .builtin b, args := args', .. } => (b == (if mx then .max else .min)) && odsOk nt args'.toList xs
    | _ => false
  | .mif t x => match op with
    | .makeInterface t' x' => t == t' && !tyIface P t && odOk nt x' x
    | _ => false
  | .no => true

section
variable {P : Program} {nt : Nat} {ρ : Ren} {fr : Fr} {a : Act} {H : AH} {w : World} {o : Oper} {K : AV → AH → Prop} {pw rd : Nat → Prop}

/-- An operation yields one value, in every world that agrees on what may be read. -/
def Gives (P : Program) (rd : Nat → Prop) (ρ : Ren) (H : AH) (w : World) (a : Act) (o : Oper) (K : AV → AH → Prop) : Prop :=
  ∃ cv av, K av H ∧ VR ρ av cv ∧ ∀ w', Agree rd ρ w w' → (execOp a.eval o).run P w' = .ok (.value cv) w'

theorem vr_n {ρ : Ren} {k : IntKind} {x : Int} : VR ρ (.n k x) (.int k x) := by simp only [VR]
theorem vr_b {ρ : Ren} {x : Bool} : VR ρ (.b x) (.bool x) := by simp only [VR]
theorem vr_s {ρ : Ren} {x : ByteArray} : VR ρ (.s x) (.string x) := by simp only [VR]
theorem VR.int {ρ : Ren} {k : IntKind} {x : Int} {v : Value} (h : VR ρ (.n k x) v) : v = .int k x := by simpa only [VR] using h

theorem g_mov (hf : FrOk ρ fr a) (hs : a.tmps.size = nt) (h0 : ρ 0 = some none) {x : Od} (hc : checkOp P nt o.op (.mov x) = true)
    (h : aop (env P) pw rd (.mov x) fr H K) : Gives P rd ρ H w a o K := by
  simp only [checkOp] at hc
  simp only [aop] at h
  split at hc
  case h_3 => cases hc
  all_goals
    rename_i z e
    exact ⟨a.eval z, fr.ev x, h, odOk.VR hf hs h0 hc, fun w' _ => by simp [execOp, e]⟩

theorem g_pick (hf : FrOk ρ fr a) (hs : a.tmps.size = nt) (h0 : ρ 0 = some none) {c x y : Od} (hc : checkOp P nt o.op (.pick c x y) = true)
    (h : aop (env P) pw rd (.pick c x y) fr H K) : Gives P rd ρ H w a o K := by
  simp only [checkOp] at hc
  split at hc
  case h_2 => cases hc
  rename_i c' x' y' e
  simp only [Bool.and_eq_true] at hc
  obtain ⟨⟨h1, h2⟩, h3⟩ := hc
  have r1 := odOk.VR hf hs h0 h1
  have r2 := odOk.VR hf hs h0 h2
  have r3 := odOk.VR hf hs h0 h3
  simp only [aop] at h
  split at h
  · rename_i ec
    rw [ec] at r1; simp only [VR] at r1
    exact ⟨_, _, h, r2, fun w' _ => by simp [execOp, e, r1, asBool]⟩
  · rename_i ec
    rw [ec] at r1; simp only [VR] at r1
    exact ⟨_, _, h, r3, fun w' _ => by simp [execOp, e, r1, asBool]⟩
  · exact h.elim

theorem g_un (hf : FrOk ρ fr a) (hs : a.tmps.size = nt) (h0 : ρ 0 = some none) {op : UnOp} {x : Od} (hc : checkOp P nt o.op (.un op x) = true)
    (h : aop (env P) pw rd (.un op x) fr H K) : Gives P rd ρ H w a o K := by
  simp only [checkOp] at hc
  split at hc
  case h_2 => cases hc
  rename_i op' t x' e
  simp only [Bool.and_eq_true, beq_iff_eq] at hc
  obtain ⟨rfl, h2⟩ := hc
  have r2 := odOk.VR hf hs h0 h2
  simp only [aop, aun] at h
  split at h
  · rename_i ec
    rw [ec] at r2; simp only [VR] at r2
    refine ⟨_, _, h, vr_n, fun w' _ => by simp [execOp, e, r2, Op.unary, Op.intArith]⟩
  · rename_i ec
    rw [ec] at r2; simp only [VR] at r2
    refine ⟨_, _, h, vr_n, fun w' _ => by simp [execOp, e, r2, Op.unary, Op.intBits, bitsv]⟩
  · rename_i ec
    rw [ec] at r2; simp only [VR] at r2
    refine ⟨_, _, h, vr_b, fun w' _ => by simp [execOp, e, r2, Op.unary]⟩
  · exact h.elim

theorem g_conv (hf : FrOk ρ fr a) (hs : a.tmps.size = nt) (h0 : ρ 0 = some none) {k : IntKind} {x : Od} (hc : checkOp P nt o.op (.conv k x) = true)
    (h : aop (env P) pw rd (.conv k x) fr H K) : Gives P rd ρ H w a o K := by
  simp only [checkOp] at hc
  split at hc
  case h_2 => cases hc
  rename_i s d x' e
  simp only [Bool.and_eq_true, beq_iff_eq] at hc
  obtain ⟨⟨hsd, hd⟩, h2⟩ := hc
  have r2 := odOk.VR hf hs h0 h2
  simp only [aop] at h
  split at h
  case h_2 => exact h.elim
  rename_i ec
  rw [ec] at r2; simp only [VR] at r2
  unfold tyInt at hsd hd
  split at hsd
  case h_2 => cases hsd
  rename_i us
  split at hd
  case h_2 => cases hd
  rename_i ud
  simp only [Option.some.injEq] at hd
  subst hd
  refine ⟨_, _, h, vr_n, fun w' _ => by simp [execOp, e, r2, convert, run_underlying us, run_underlying ud, Conv.intToInt]⟩

theorem g_ext (hf : FrOk ρ fr a) (hs : a.tmps.size = nt) (h0 : ρ 0 = some none) {ix : Nat} {x : Od} (hc : checkOp P nt o.op (.ext ix x) = true)
    (h : aop (env P) pw rd (.ext ix x) fr H K) : Gives P rd ρ H w a o K := by
  simp only [checkOp] at hc
  split at hc
  case h_2 => cases hc
  rename_i x' ix' e
  simp only [Bool.and_eq_true, beq_iff_eq] at hc
  obtain ⟨rfl, h2⟩ := hc
  have r2 := odOk.VR hf hs h0 h2
  simp only [aop] at h
  split at h
  case h_2 => exact h.elim
  rename_i cs ec
  split at h
  case h_2 => exact h.elim
  rename_i v hv
  rw [ec] at r2; simp only [VR] at r2
  obtain ⟨vs, ev, hvs⟩ := r2
  obtain ⟨cv, hcv, hr⟩ := hvs.get _ _ hv
  refine ⟨cv, v, h, hr, fun w' _ => by simp [execOp, e, ev, Instr.extract, hcv]⟩

theorem g_nilc (hf : FrOk ρ fr a) (hs : a.tmps.size = nt) (h0 : ρ 0 = some none) {x : Od} (hc : checkOp P nt o.op (.nilc x) = true)
    (h : aop (env P) pw rd (.nilc x) fr H K) : Gives P rd ρ H w a o K := by
  simp only [checkOp] at hc
  split at hc
  case h_2 => cases hc
  rename_i x' e
  have r2 := odOk.VR hf hs h0 hc
  simp only [aop] at h
  split at h
  case h_3 => exact h.elim
  all_goals
    rename_i ec
    rw [ec] at r2
    refine ⟨_, _, h, r2, fun w' _ => ?_⟩
    simp only [VR] at r2
  · obtain ⟨l, _, ev⟩ := r2
    simp [execOp, e, ev]
  · obtain ⟨vs, b, o', _, ev, _⟩ := r2
    simp [execOp, e, ev]

theorem g_mkf (hf : FrOk ρ fr a) (hs : a.tmps.size = nt) (h0 : ρ 0 = some none) {g : FuncId} {cap : List Od} (hc : checkOp P nt o.op (.mkf g cap) = true)
    (h : aop (env P) pw rd (.mkf g cap) fr H K) : Gives P rd ρ H w a o K := by
  simp only [checkOp] at hc
  split at hc
  case h_2 => cases hc
  rename_i g' first cap' e
  simp only [Bool.and_eq_true, beq_iff_eq] at hc
  obtain ⟨⟨rfl, h1⟩, h2⟩ := hc
  have r2 := odsOk.VRs hf hs h0 h2
  simp only [aop] at h
  have hfi : first = #[] := by simpa using h1
  subst hfi
  refine ⟨.func (.func g) #[] (cap'.map a.eval), _, h, ?_, fun w' _ => by simp [execOp, e, Instr.makeFunc]⟩
  simp only [VR]
  exact ⟨cap'.toList.map a.eval, by rw [← Array.toList_map, Array.toArray_toList], r2⟩

theorem g_mif (hf : FrOk ρ fr a) (hs : a.tmps.size = nt) (h0 : ρ 0 = some none) {t : TypeId} {x : Od} (hc : checkOp P nt o.op (.mif t x) = true)
    (h : aop (env P) pw rd (.mif t x) fr H K) : Gives P rd ρ H w a o K := by
  simp only [checkOp] at hc
  split at hc
  case h_2 => cases hc
  rename_i t' x' e
  simp only [Bool.and_eq_true, beq_iff_eq, Bool.not_eq_true'] at hc
  obtain ⟨⟨rfl, ht⟩, h2⟩ := hc
  have r2 := odOk.VR hf hs h0 h2
  simp only [aop] at h
  refine ⟨.iface t (a.eval x'), _, h, by simp only [VR]; exact ⟨_, rfl, r2⟩, fun w' _ => ?_⟩
  unfold tyIface at ht
  cases hu : P.underlying t with
  | none => simp [hu] at ht
  | some d =>
    simp only [hu] at ht
    simp only [execOp, e, Instr.makeInterface, Sem.run_bind, run_underlying hu, Result.andThen_ok]
    cases d <;> first | rfl | (simp at ht)
end
end Go.Proofs.Ytamnlngihccgiaa.AM
