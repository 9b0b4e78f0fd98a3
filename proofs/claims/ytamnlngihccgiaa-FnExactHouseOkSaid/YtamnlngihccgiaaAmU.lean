/- The operations, one by one, as a walk meets them; calls stand behind a name. -/
import Derived.Test.YtamnlngihccgiaaAmT
namespace Go.Proofs.Ytamnlngihccgiaa.AM
set_option linter.all false
open Go

section
variable {E : Env} {P : Program} {fr : Fr} {H : AH} {K : Fr → AH → Prop} {d : Option Nat} {r : List AI}

/-- A call in a walk. -/
def CallK (E : Env) (f : AV) (args : List AV) (d : Option Nat) (r : List AI) (fr : Fr) (H : AH) (K : Fr → AH → Prop) : Prop :=
  match f with
  | .f g cap => E.ct g (args ++ cap) (H.lock []) fun v H' => aitems E r (fr.setO d v) (H.back [] H') K
  | _ => False
/-- A call that may write, in a walk. -/
def CallM (E : Env) (f : AV) (args : List AV) (d : Option Nat) (r : List AI) (fr : Fr) (H : AH) (K : Fr → AH → Prop) : Prop :=
  match f with
  | .f g cap => ∃ M : List Nat, E.ct g (args ++ cap) (H.lock M) fun v H' => aitems E r (fr.setO d v) (H.back M H') K
  | _ => False

theorem ai_nil : aitems E [] fr H K = K fr H := of_eq_true (eq_self _)
theorem ai_call {f : Od} {as : List Od} : aitems E (.op d (.call f as) :: r) fr H K = CallK E (fr.ev f) (as.map fr.ev) d r fr H K := by
  simp only [aitems, aitem, aop, CallK]
  cases fr.ev f <;> rfl
theorem ai_callm {f : Od} {as : List Od} : aitems E (.op d (.callm f as) :: r) fr H K = CallM E (fr.ev f) (as.map fr.ev) d r fr H K := by
  simp only [aitems, aitem, aop, CallM]
  cases fr.ev f <;> simp
theorem callK_pf {g : FuncId} {cap args : List AV} {v : AV} (hp : Pf P g (args ++ cap) v) (h : aitems (env P) r (fr.setO d v) H K) : CallK (env P) (.f g cap) args d r fr H K := by
  refine ⟨hp.1, (hp.2 (H.lock [])).mono fun u H' ⟨e1, e2⟩ => ?_⟩
  subst e1; subst e2
  rw [back_lock]; exact h
theorem ai_mov {x : Od} : aitems E (.op d (.mov x) :: r) fr H K = aitems E r (fr.setO d (fr.ev x)) H K := of_eq_true (eq_self _)
theorem ai_pick {c x y : Od} : aitems E (.op d (.pick c x y) :: r) fr H K = match fr.ev c with
    | .b true => aitems E r (fr.setO d (fr.ev x)) H K
    | .b false => aitems E r (fr.setO d (fr.ev y)) H K
    | _ => False := of_eq_true (eq_self _)
theorem ai_bin {op : BinOp} {x y : Od} : aitems E (.op d (.bin op x y) :: r) fr H K = abin op (fr.ev x) (fr.ev y) fun v => aitems E r (fr.setO d v) H K := of_eq_true (eq_self _)
theorem ai_beq {neg : Bool} {x y : Od} : aitems E (.op d (.beq neg x y) :: r) fr H K = match fr.ev x, fr.ev y with
    | .b p, .b q => aitems E r (fr.setO d (.b (if neg then !(p == q) else p == q))) H K
    | _, _ => False := of_eq_true (eq_self _)
theorem ai_eqs {neg : Bool} {ty : TypeId} {x y : Od} : aitems E (.op d (.eqs neg ty x y) :: r) fr H K = match fr.ev x, fr.ev y with
    | .a xs, .a ys => E.eq ty (xs.map AV.kd) ∧ ys.map AV.kd = xs.map AV.kd ∧ match sceqs xs ys with
      | some b => aitems E r (fr.setO d (.b (if neg then !b else b))) H K
      | none => False
    | _, _ => False := of_eq_true (eq_self _)
theorem ai_eqn {kd : Nat} {neg : Bool} {x : Od} : aitems E (.op d (.eqn kd neg x) :: r) fr H K = match isNil kd (fr.ev x) with
    | some b => aitems E r (fr.setO d (.b (if neg then !b else b))) H K
    | none => (fr.ev x).isSl = true ∧ 2 ≤ kd ∧ ∀ b, aitems E r (fr.setO d (.b b)) H K := of_eq_true (eq_self _)
theorem ai_un {op : UnOp} {x : Od} : aitems E (.op d (.un op x) :: r) fr H K = aun op (fr.ev x) fun v => aitems E r (fr.setO d v) H K := of_eq_true (eq_self _)
theorem ai_conv {k : IntKind} {x : Od} : aitems E (.op d (.conv k x) :: r) fr H K = match fr.ev x with
    | .n _ v => aitems E r (fr.setO d (.n k (k.wrap v))) H K
    | _ => False := of_eq_true (eq_self _)
theorem ai_bts {x : Od} : aitems E (.op d (.bts x) :: r) fr H K = match fr.ev x with
  | .l id i n => match H.get id with
      | some B => i + n ≤ B.rows.length ∧ match bytesOfRows ((B.rows.drop i).take n) with
        | some bs => True ∧ aitems E r (fr.setO d (.s ⟨bs.toArray⟩)) H K
        | none => False
      | none => False
  | .q rows => match bytesOfRows rows with
      | some bs => True ∧ aitems E r (fr.setO d (.s ⟨bs.toArray⟩)) H K
      | none => False
  | _ => False := of_eq_true (eq_self _)
theorem ai_fld {off sz : Nat} {ag : Bool} {x : Od} : aitems E (.op d (.fld off sz ag x) :: r) fr H K = match fr.ev x with
    | .a cs => match partv ag sz off cs with
      | some v => aitems E r (fr.setO d v) H K
      | none => False
    | _ => False := of_eq_true (eq_self _)
theorem ai_ext {ix : Nat} {x : Od} : aitems E (.op d (.ext ix x) :: r) fr H K = match fr.ev x with
    | .t cs => match cs[ix]? with
      | some v => aitems E r (fr.setO d v) H K
      | none => False
    | _ => False := of_eq_true (eq_self _)
theorem ai_nilc {x : Od} : aitems E (.op d (.nilc x) :: r) fr H K = match fr.ev x with
    | .p id i j => aitems E r (fr.setO d (.p id i j)) H K
    | .pq row j => aitems E r (fr.setO d (.pq row j)) H K
    | _ => False := of_eq_true (eq_self _)
theorem ai_fad {off : Nat} {x : Od} : aitems E (.op d (.fad off x) :: r) fr H K = match fr.ev x with
    | .p id i j => aitems E r (fr.setO d (.p id i (j + off))) H K
    | .pq row j => aitems E r (fr.setO d (.pq row (j + off))) H K
    | _ => False := of_eq_true (eq_self _)
theorem ai_iad {k : Nat} {x ix : Od} : aitems E (.op d (.iad k x ix) :: r) fr H K = match fr.ev x, fr.ev ix with
    | .l id i n, .n _ v => (H.get id).map Blk.k = some k ∧ 0 ≤ v ∧ v < n ∧ aitems E r (fr.setO d (.p id (i + v.toNat) 0)) H K
    | .q rows, .n _ v => 0 ≤ v ∧ match rows[v.toNat]? with
      | some row => row.length = k ∧ aitems E r (fr.setO d (.pq row 0)) H K
      | none => False
    | _, _ => False := of_eq_true (eq_self _)
theorem ai_idx {x ix : Od} : aitems E (.op d (.idx x ix) :: r) fr H K = match fr.ev x, fr.ev ix with
    | .s x, .n _ v => 0 ≤ v ∧ v < x.size ∧ aitems E r (fr.setO d (.n .u8 (x[v.toNat]!).toNat)) H K
    | _, _ => False := of_eq_true (eq_self _)
theorem ai_sls {k : Nat} {x : Od} {lo hi : Option Od} : aitems E (.op d (.sls k x lo hi) :: r) fr H K = match fr.ev x with
    | .l id i n => match bnd fr lo 0, bnd fr hi n with
      | some lo, some hi => 0 ≤ lo ∧ lo ≤ hi ∧ hi ≤ n ∧ (lo = 0 ∨ (H.get id).map Blk.k = some k) ∧ aitems E r (fr.setO d (.l id (i + lo.toNat) (hi.toNat - lo.toNat))) H K
      | _, _ => False
    | .q rows => match bnd fr lo 0, bnd fr hi rows.length with
      | some lo, some hi => 0 ≤ lo ∧ lo ≤ hi ∧ hi ≤ rows.length ∧ (lo = 0 ∨ ∀ row ∈ rows, row.length = k) ∧ aitems E r (fr.setO d (.q ((rows.drop lo.toNat).take (hi.toNat - lo.toNat)))) H K
      | _, _ => False
    | _ => False := of_eq_true (eq_self _)
theorem ai_sst {x : Od} {lo hi : Option Od} : aitems E (.op d (.sst x lo hi) :: r) fr H K = match fr.ev x with
    | .s x => match bnd fr lo 0, bnd fr hi x.size with
      | some lo, some hi => 0 ≤ lo ∧ lo ≤ hi ∧ hi ≤ x.size ∧ aitems E r (fr.setO d (.s (x.extract lo.toNat hi.toNat))) H K
      | _, _ => False
    | _ => False := of_eq_true (eq_self _)
theorem ai_load {sz : Nat} {ag : Bool} {x : Od} : aitems E (.op d (.load sz ag x) :: r) fr H K = match fr.ev x with
    | .p id i j => True ∧ match (H.row id i).bind (partv ag sz j) with
      | some v => aitems E r (fr.setO d v) H K
      | none => False
    | .pq row j => True ∧ match partv ag sz j row with
      | some v => aitems E r (fr.setO d v) H K
      | none => False
    | _ => False := of_eq_true (eq_self _)
theorem ai_stor {sz : Nat} {x v : Od} : aitems E (.op d (.stor sz x v) :: r) fr H K = match fr.ev x with
    | .p id i j => True ∧ match H.get id with
      | some B => B.own = true ∧ match B.rows[i]? with
        | some row => (cellsOf (fr.ev v)).length = sz ∧ j + sz ≤ row.length ∧ (cellsOf (fr.ev v)).all AV.leaf = true ∧ aitems E r (fr.setO d (.t [])) (H.put id { B with rows := B.rows.set i (putAt row j (cellsOf (fr.ev v))) }) K
        | none => False
      | none => False
    | _ => False := of_eq_true (eq_self _)
theorem ai_box {v : Od} : aitems E (.op d (.box v) :: r) fr H K = ((cellsOf (fr.ev v)).all AV.leaf = true ∧ aitems E r (fr.setO d (.p H.nx 0 0)) (H.push ⟨(cellsOf (fr.ev v)).length, true, [cellsOf (fr.ev v)]⟩) K) := of_eq_true (eq_self _)
theorem ai_aloc {zero : List AV} : aitems E (.op d (.aloc zero) :: r) fr H K = (zero.all AV.leaf = true ∧ aitems E r (fr.setO d (.p H.nx 0 0)) (H.push ⟨zero.length, true, [zero]⟩) K) := of_eq_true (eq_self _)
theorem ai_bld {zero : List AV} {parts : List (Nat × Nat × Od)} : aitems E (.op d (.bld zero parts) :: r) fr H K = (partsOk fr zero.length parts ∧ aitems E r (fr.setO d (.a (fillv fr zero parts))) H K) := of_eq_true (eq_self _)
theorem ai_bsl {k : Nat} {rows : List Od} : aitems E (.op d (.bsl k rows) :: r) fr H K = ((∀ x ∈ rows, (cellsOf (fr.ev x)).length = k ∧ (cellsOf (fr.ev x)).all AV.leaf = true) ∧
      aitems E r (fr.setO d (.l H.nx 0 rows.length)) (H.push ⟨k, true, rows.map fun x => cellsOf (fr.ev x)⟩) K) := of_eq_true (eq_self _)
theorem ai_mks {by_ : Nat} {zero : List AV} {len : Od} : aitems E (.op d (.mks by_ zero len) :: r) fr H K = match fr.ev len with
    | .n _ v => 0 ≤ v ∧ v < 9223372036854775808 ∧ by_ * v ≤ 281474976710656 ∧ zero.all AV.leaf = true ∧ aitems E r (fr.setO d (.l H.nx 0 v.toNat)) (H.push ⟨zero.length, true, List.replicate v.toNat zero⟩) K
    | _ => False := of_eq_true (eq_self _)
theorem ai_mkf {g : FuncId} {cap : List Od} : aitems E (.op d (.mkf g cap) :: r) fr H K = aitems E r (fr.setO d (.f g (cap.map fr.ev))) H K := of_eq_true (eq_self _)
theorem ai_len {str : Bool} {x : Od} : aitems E (.op d (.len str x) :: r) fr H K = match fr.ev x with
    | .l _ _ n => str = false ∧ aitems E r (fr.setO d (.n .i64 n)) H K
    | .q rows => str = false ∧ aitems E r (fr.setO d (.n .i64 rows.length)) H K
    | .s x => str = true ∧ aitems E r (fr.setO d (.n .i64 x.size)) H K
    | _ => False := of_eq_true (eq_self _)
theorem ai_mm {mx : Bool} {xs : List Od} : aitems E (.op d (.mm mx xs) :: r) fr H K = match mmv mx (xs.map fr.ev) with
    | some v => aitems E r (fr.setO d v) H K
    | none => False := of_eq_true (eq_self _)
theorem ai_mif {t : TypeId} {x : Od} : aitems E (.op d (.mif t x) :: r) fr H K = aitems E r (fr.setO d (.e t (fr.ev x))) H K := of_eq_true (eq_self _)
theorem ai_app {by_ k : Nat} {x y : Od} : aitems E (.op d (.app by_ k x y) :: r) fr H K = match fr.ev x, fr.ev y with
    | .l id i n, .l id' i' n' => match H.get id, H.get id' with
      | some B, some B' =>
        (n' = 0 ∨ B'.k = k) ∧ (id = 0 ∨ B.k = k) ∧ i + n ≤ B.rows.length ∧ i' + n' ≤ B'.rows.length ∧
        (n + n') * by_ ≤ 70368744177664 ∧ B.own = true ∧ (id = 0 ∨ True) ∧
          aitems E r (fr.setO d (.l H.nx 0 (n + n'))) ((H.kill id).push ⟨k, true, (B.rows.drop i).take n ++ (B'.rows.drop i').take n'⟩) K
      | _, _ => False
    | .l id i n, .q rows => match H.get id with
      | some B =>
        (∀ row ∈ rows, row.length = k ∧ row.all AV.leaf = true) ∧ (id = 0 ∨ B.k = k) ∧ i + n ≤ B.rows.length ∧
        (n + rows.length) * by_ ≤ 70368744177664 ∧ B.own = true ∧ (id = 0 ∨ True) ∧
          aitems E r (fr.setO d (.l H.nx 0 (n + rows.length))) ((H.kill id).push ⟨k, true, (B.rows.drop i).take n ++ rows⟩) K
      | none => False
    | _, _ => False := of_eq_true (eq_self _)
theorem ai_cpy {k : Nat} {x y : Od} : aitems E (.op d (.cpy k x y) :: r) fr H K = match fr.ev x, fr.ev y with
    | .l id i n, .l id' i' n' => match H.get id, H.get id' with
      | some B, some B' =>
        True ∧ B.own = true ∧ B.k = k ∧ B'.k = k ∧ i + n ≤ B.rows.length ∧ i' + n' ≤ B'.rows.length ∧
          aitems E r (fr.setO d (.n .i64 (min n' n : Nat))) (H.put id { B with rows := B.rows.take i ++ (B'.rows.drop i').take (min n' n) ++ B.rows.drop (i + min n' n) }) K
      | _, _ => False
    | .l id i n, .q rows => match H.get id with
      | some B =>
        True ∧ B.own = true ∧ B.k = k ∧ (∀ row ∈ rows, row.length = k ∧ row.all AV.leaf = true) ∧ i + n ≤ B.rows.length ∧
          aitems E r (fr.setO d (.n .i64 (min rows.length n : Nat))) (H.put id { B with rows := B.rows.take i ++ rows.take (min rows.length n) ++ B.rows.drop (i + min rows.length n) }) K
      | none => False
    | _, _ => False := of_eq_true (eq_self _)
theorem ai_br {t : Nat} {want : Bool} {body : List AI} {dl : List Nat} {d x : Nat} : aitems E (.br t want body dl d x :: r) fr H K = match fr.get t with
    | .b c => ∃ r1 : Bool, (c = want → aitems E body fr H fun fr' H' => H' = H ∧ fr'.get x = .b r1) ∧ ∀ vs, aitems E r ((fr.mix dl vs).set d (.b (if c = want then r1 else !want))) H K
    | _ => False := of_eq_true (eq_self _)

theorem row_push_same {B : Blk} {i : Nat} : (H.push B).row H.nx i = B.rows[i]? := by simp [AH.row, get_push_same]
theorem row_push_ne {B : Blk} {id i : Nat} (h : id ≠ H.nx) : (H.push B).row id i = H.row id i := by simp [AH.row, get_push_ne h]

theorem br_intro {c : Prop} {A B : Bool → Prop} {r : Bool} (h1 : c → A r) (h2 : B r) : ∃ r, (c → A r) ∧ B r := ⟨r, h1, h2⟩

theorem row_push_ne' {B : Blk} {id i : Nat} (h : id ≠ H.nx) : (H.push B).row id i = H.row id i := row_push_ne h
theorem row_push_eq {B : Blk} {id i : Nat} (h : id = H.nx) : (H.push B).row id i = B.rows[i]? := by subst h; exact row_push_same
theorem get_push_eq {B : Blk} {id : Nat} (h : id = H.nx) : (H.push B).get id = some B := by subst h; exact get_push_same
theorem row_put_same {B : Blk} {id i : Nat} (h : id < H.nx) : (H.put id B).row id i = B.rows[i]? := by simp [AH.row, get_put, h]
theorem row_put_ne {B : Blk} {id j i : Nat} (h : j ≠ id) : (H.put id B).row j i = H.row j i := by simp [AH.row, get_put, h]
theorem get_put_same {B : Blk} {id : Nat} (h : id < H.nx) : (H.put id B).get id = some B := by simp [get_put, h]
theorem get_put_ne {B : Blk} {id j : Nat} (h : j ≠ id) : (H.put id B).get j = H.get j := by simp [get_put, h]

/-- What a function's end must come to. -/
def fin (res : List ARes) (R : AV → AH → Prop) : Ex → Fr → AH → Prop := fun e fr H => match e with
  | .exit _ => False
  | _ => ∃ v, ares fr H res = some v ∧ R v H
theorem Pf.of_body (hm : P.follows .mixedOrders = true) {f : FuncId} {fn : Func} (hf : P.funcs[f]? = some fn) (hok : okFn P f = true) {nt np : Nat} {res : List ARes} {body : ACode} (hc : checkFn P fn ⟨nt, np, res, body⟩ = true) {args : List AV} {v : AV}
    (hl : args.length = np) (h : ∀ H : AH, 0 < H.nx → awp (env P) body (Fr.ofList args) H (fin res (Post H v))) : Pf P f args v :=
  Pf.of_afn hm hf hok hc fun H hH => ⟨hl, h H hH⟩
theorem w_fin {res : List ARes} {H0 : AH} {v : AV} (h1 : ares fr H res = some v) (h2 : H0.Old H) (h3 : v.dom (· < H0.nx)) : fin res (Post H0 v) .ret fr H :=
  ⟨v, h1, h2, PV.refl v, h3⟩
theorem w_finN {res : List ARes} {H0 : AH} {v : AV} (h1 : ares fr H res = some v) (h2 : H0.Old H) (h3 : v.dom (· < H0.nx)) : fin res (Post H0 v) .normal fr H :=
  ⟨v, h1, h2, PV.refl v, h3⟩
attribute [irreducible] CallK CallM
end
end Go.Proofs.Ytamnlngihccgiaa.AM
