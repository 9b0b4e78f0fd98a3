/- The texts of the functions that the law FnExactHouseOk reaches, what their runs yield, and their contracts. Printed by a program. -/
import Derived.Test.YtamnlngihccgiaaRh
import Derived.Test.YtamnlngihccgiaaShContains
import Derived.Test.YtamnlngihccgiaaProg
import Derived.KernelRfl
namespace Go.Proofs.Ytamnlngihccgiaa.AM
open Go
set_option linter.all false
set_option maxRecDepth 100000
noncomputable section
theorem hm : Try.prog.follows .mixedOrders = true := by kernel_rfl
theorem cond_some {α : Type} (c : Bool) (a b : α) : (bif c then some a else some b) = some (bif c then a else b) := by cases c <;> rfl
theorem some_of_isSome {α : Type} {o : Option α} {d : α} (h : o.isSome = true) : o = some (o.getD d) := by cases o with | none => cases h | some _ => rfl

abbrev tItem : GT := (.st [(.i .i64), .s])
abbrev DItem : Type := (Int × ByteArray)
abbrev dItem : DItem := ((0 : Int), (⟨#[]⟩ : ByteArray))
abbrev tKeeper : GT := (.st [(.i .i64), (.i .i64), (.i .i64), (.sl tItem), (.i .i64), (.i .i64), (.i .i64), (.sl (.i .i64)), (.sl (.i .i64)), .b])
abbrev DKeeper : Type := (Int × Int × Int × List DItem × Int × Int × Int × List Int × List Int × Bool)
abbrev dKeeper : DKeeper := ((0 : Int), (0 : Int), (0 : Int), [], (0 : Int), (0 : Int), (0 : Int), [], [], false)
abbrev tLetter : GT := (.st [(.i .i64), (.i .i64), (.i .i64), (.i .i64), (.i .i64), (.i .i64), (.sl tItem), (.i .i64), .b])
abbrev DLetter : Type := (Int × Int × Int × Int × Int × Int × List DItem × Int × Bool)
abbrev dLetter : DLetter := ((0 : Int), (0 : Int), (0 : Int), (0 : Int), (0 : Int), (0 : Int), [], (0 : Int), false)
abbrev tHouse : GT := (.st [(.sl tKeeper), (.sl tLetter)])
abbrev DHouse : Type := (List DKeeper × List DLetter)
abbrev dHouse : DHouse := ([], [])
/-! loop.example/g00526/laws.szItem -/
abbrev T_laws_szItem : List GT := [tItem, (.i .i64)]
abbrev R_laws_szItem : List GT := [(.i .i64)]
def fin_laws_szItem : Fr2 → Hp → Option Int := finF R_laws_szItem [.t 4]
def O_laws_szItem (N : Nat) : Orac := orc [] []
theorem O_laws_szItem_ok (N : Nat) : OrcOk Try.prog (O_laws_szItem N) := OrcOk.of trivial trivial
def τ_laws_szItem : Nat → Option GT := fun _ => none
def B_laws_szItem : F2 := ⟨13, 2, [.t 4], τ_laws_szItem,
    .seq (.reg .reg [.op (some 2) (.box (.t 0)),
      .op (some 4) (.mov (.c (.n .i64 0)))])
    (.seq (.reg .reg [.op (some 5) (.mov (.t 1)),
      .op (some 6) (.fad 1 (.t 2)),
      .op (some 7) (.load 1 false (.t 6)),
      .op (some 8) (.len true (.t 7)),
      .op (some 9) (.bin .sub (.t 5) (.t 8)),
      .op (some 1) (.mov (.t 9))])
    (.seq (.seq (.reg .reg [.op (some 10) (.mov (.t 1)),
      .op (some 11) (.bin .lss (.t 10) (.c (.n .i64 0)))])
    (.cond (.t 11) (.seq (.reg .reg [.op (some 4) (.mov (.c (.n .i64 (-1))))])
    (.ret))
    (.skip)))
    (.seq (.reg .reg [.op (some 12) (.mov (.t 1)),
      .op (some 4) (.mov (.t 12))])
    (.ret))))⟩
theorem B_laws_szItem_ok : checkFn Try.prog Try.f98 B_laws_szItem.toA = true := by kernel_rfl
theorem B_laws_szItem_wf : B_laws_szItem.body.wf = true := by kernel_rfl
theorem okFn_laws_szItem : okFn Try.prog 98 = true := by kernel_rfl
def F_laws_szItem (N : Nat) (a0 : DItem) (a1 : Int) : Option Int :=
  bif (ilt (w64 (a1 - (a0.2.size : Int))) (0 : Int)) then
    some (-1 : Int)
  else
    some (w64 (a1 - (a0.2.size : Int)))
theorem F_laws_szItem_run (N : Nat) (a0 : DItem) (a1 : Int) :
    runF (O_laws_szItem N) N B_laws_szItem R_laws_szItem (vals T_laws_szItem (a0, a1)) = F_laws_szItem N a0 a1 := by kernel_rfl
def G_laws_szItem (a0 : DItem) (a1 : Int) : Int :=
  bif (ilt (w64 (a1 - (a0.2.size : Int))) (0 : Int)) then
    (-1 : Int)
  else
    (w64 (a1 - (a0.2.size : Int)))
theorem FG_laws_szItem (N : Nat) (a0 : DItem) (a1 : Int) : F_laws_szItem N a0 a1 = some (G_laws_szItem a0 a1) := by
  first | rfl | (simp only [F_laws_szItem, G_laws_szItem, cond_some]; done) | (unfold F_laws_szItem G_laws_szItem; simp only [cond_some]; done)
def o_laws_szItem : List V → Bool × V := mkO T_laws_szItem R_laws_szItem (fun (x : (DItem × Int)) => true) (fun (x : (DItem × Int)) => G_laws_szItem x.1 x.2)
theorem laws_szItem_entry : Entry Try.prog 98 o_laws_szItem := Entry.of fun (x : (DItem × Int)) _ =>
  Pf.of_run hm Try.func98 okFn_laws_szItem B_laws_szItem_ok B_laws_szItem_wf (O_laws_szItem_ok 0) rfl ((F_laws_szItem_run 0 x.1 x.2).trans (FG_laws_szItem 0 x.1 x.2))
/-! loop.example/g00526/laws.szItemS -/
abbrev T_laws_szItemS : List GT := [(.sl tItem), (.i .i64)]
abbrev R_laws_szItemS : List GT := [(.i .i64)]
def fin_laws_szItemS : Fr2 → Hp → Option Int := finF R_laws_szItemS [.t 4]
def O_laws_szItemS (N : Nat) : Orac := orc [(98, o_laws_szItem)] []
theorem O_laws_szItemS_ok (N : Nat) : OrcOk Try.prog (O_laws_szItemS N) := OrcOk.of ⟨laws_szItem_entry, trivial⟩ trivial
def c_laws_szItemS_1 : C2 :=
    .seq (.seq (.reg .reg [.op (some 12) (.mov (.t 5)),
      .op (some 13) (.mov (.t 0)),
      .op (some 14) (.len false (.t 13)),
      .op (some 15) (.bin .lss (.t 12) (.t 14))])
    (.cond (.t 15) (.skip)
    (.exit 0)))
    (.seq (.block 1 (.seq (.reg .reg [.op (some 18) (.mov (.t 0)),
      .op (some 19) (.mov (.t 5)),
      .op (some 20) (.iad 2 (.t 18) (.t 19)),
      .op (some 21) (.load 2 true (.t 20)),
      .op (some 22) (.mov (.t 1)),
      .op (some 23) (.call (.c (.f 98 [])) [.t 21, .t 22]),
      .op (some 1) (.mov (.t 23))])
    (.seq (.reg .reg [.op (some 24) (.mov (.t 1)),
      .op (some 25) (.bin .lss (.t 24) (.c (.n .i64 0)))])
    (.cond (.t 25) (.seq (.reg .reg [.op (some 4) (.mov (.c (.n .i64 (-1))))])
    (.ret))
    (.skip)))))
    (.reg .reg [.op (some 16) (.mov (.t 5)),
      .op (some 17) (.bin .add (.t 16) (.c (.n .i64 1))),
      .op (some 5) (.mov (.t 17))]))
def c_laws_szItemS_2 : C2 :=
    .seq (.reg .reg [.op (some 26) (.mov (.t 1)),
      .op (some 4) (.mov (.t 26))])
    (.ret)
def τ_laws_szItemS : Nat → Option GT := fun _ => none
def B_laws_szItemS : F2 := ⟨27, 2, [.t 4], τ_laws_szItemS,
    .seq (.reg .reg [.op (some 4) (.mov (.c (.n .i64 0)))])
    (.seq (.reg .reg [.op (some 6) (.mov (.t 1)),
      .op (some 7) (.mov (.t 0)),
      .op (some 8) (.len false (.t 7)),
      .op (some 9) (.bin .sub (.t 6) (.t 8)),
      .op (some 1) (.mov (.t 9))])
    (.seq (.seq (.reg .reg [.op (some 10) (.mov (.t 1)),
      .op (some 11) (.bin .lss (.t 10) (.c (.n .i64 0)))])
    (.cond (.t 11) (.seq (.reg .reg [.op (some 4) (.mov (.c (.n .i64 (-1))))])
    (.ret))
    (.skip)))
    (.seq (.seq (.reg .reg [.op (some 5) (.mov (.c (.n .i64 0)))])
    (.block 0 (.loop [0, 1, 5] [] [1] c_laws_szItemS_1)))
    (c_laws_szItemS_2))))⟩
theorem B_laws_szItemS_ok : checkFn Try.prog Try.f60 B_laws_szItemS.toA = true := by kernel_rfl
theorem B_laws_szItemS_wf : B_laws_szItemS.body.wf = true := by kernel_rfl
theorem okFn_laws_szItemS : okFn Try.prog 60 = true := by kernel_rfl
def laws_szItemS_l1s (r0 : Int → Int → Option Int) (k0_0 : Int → Option Int) (N : Nat) (a0 : List DItem) (v1_1 : Int) (v5_1 : Int) : Option Int :=
  bif (ilt v5_1 ((a0.length) : Int)) then
    let x1 : DItem := (a0.getD (v5_1.toNat) dItem)
    chk (inb v5_1 (a0.length)) <|
    bif (ilt (G_laws_szItem x1 v1_1) (0 : Int)) then
      some (-1 : Int)
    else
      r0 (G_laws_szItem x1 v1_1) (w64 (v5_1 + (1 : Int)))
  else
    k0_0 v1_1
theorem laws_szItemS_l1s_run (N : Nat) (C0 : Fr2 → Hp → Option Int) (K0 : Option Nat → Fr2 → Hp → Option Int) (a0 : List DItem) (v1_1 : Int) (v5_1 : Int) :
    rcode (O_laws_szItemS N) τ_laws_szItemS N fin_laws_szItemS c_laws_szItemS_1 [(0, .q tItem a0), (1, .n .i64 v1_1), (5, .n .i64 v5_1)] ⟨1, []⟩ (roundK [0, 1, 5] [] [1] C0 K0) = laws_szItemS_l1s (fun v1_1 v5_1 => C0 [(0, .q tItem a0), (1, .n .i64 v1_1), (5, .n .i64 v5_1)] ⟨1, []⟩) (fun ev1_1 => K0 (some 0) [(1, .n .i64 ev1_1)] ⟨1, []⟩) N a0 v1_1 v5_1 := by kernel_rfl
def laws_szItemS_x1_0 (N : Nat) (ev1_1 : Int) : Option Int :=
  some ev1_1
theorem laws_szItemS_x1_0_run (N : Nat) (ev1_1 : Int) :
    (blockK 0 (seqK' (fun fr H K => rcode (O_laws_szItemS N) τ_laws_szItemS N fin_laws_szItemS c_laws_szItemS_2 fr H K) (finK R_laws_szItemS [.t 4]))) (some 0) [(1, .n .i64 ev1_1)] ⟨1, []⟩ = laws_szItemS_x1_0 N ev1_1 := by kernel_rfl
def laws_szItemS_l1 (k0_0 : Int → Option Int) (N : Nat) (a0 : List DItem) : Nat → Int → Int → Option Int
  | 0, _, _ => none
  | n + 1, v1_1, v5_1 => laws_szItemS_l1s (laws_szItemS_l1 k0_0 N a0 n) k0_0 N a0 v1_1 v5_1
def laws_szItemS_h1 (N : Nat) (a0 : List DItem) (v1_1 : Int) (v5_1 : Int) : Option Int :=
  laws_szItemS_l1 (fun ev1_1 => laws_szItemS_x1_0 N ev1_1) N a0 N v1_1 v5_1
theorem laws_szItemS_l1_run (N : Nat)  (K : Option Nat → Fr2 → Hp → Option Int) (a0 : List DItem) : ∀ (n : Nat) (v1_1 : Int) (v5_1 : Int),
    rloop (fun fr H K => rcode (O_laws_szItemS N) τ_laws_szItemS N fin_laws_szItemS c_laws_szItemS_1 fr H K) [0, 1, 5] [] [1] K n [(0, .q tItem a0), (1, .n .i64 v1_1), (5, .n .i64 v5_1)] ⟨1, []⟩ = laws_szItemS_l1 (fun ev1_1 => K (some 0) [(1, .n .i64 ev1_1)] ⟨1, []⟩) N a0 n v1_1 v5_1 := by
  intro n
  induction n with
  | zero => intro v1_1 v5_1; kernel_rfl
  | succ n ih => intro v1_1 v5_1; exact (laws_szItemS_l1s_run N (rloop (fun fr H K => rcode (O_laws_szItemS N) τ_laws_szItemS N fin_laws_szItemS c_laws_szItemS_1 fr H K) [0, 1, 5] [] [1] K n) K a0 v1_1 v5_1).trans (congrArg (fun r => laws_szItemS_l1s r (fun ev1_1 => K (some 0) [(1, .n .i64 ev1_1)] ⟨1, []⟩) N a0 v1_1 v5_1) (funext fun v1_1 => funext fun v5_1 => ih v1_1 v5_1))
theorem laws_szItemS_h1_run (N : Nat) (a0 : List DItem) (v1_1 : Int) (v5_1 : Int) : rloop (fun fr H K => rcode (O_laws_szItemS N) τ_laws_szItemS N fin_laws_szItemS c_laws_szItemS_1 fr H K) [0, 1, 5] [] [1] (blockK 0 (seqK' (fun fr H K => rcode (O_laws_szItemS N) τ_laws_szItemS N fin_laws_szItemS c_laws_szItemS_2 fr H K) (finK R_laws_szItemS [.t 4]))) N [(0, .q tItem a0), (1, .n .i64 v1_1), (5, .n .i64 v5_1)] ⟨1, []⟩ = laws_szItemS_h1 N a0 v1_1 v5_1 :=
  ((laws_szItemS_l1_run N (blockK 0 (seqK' (fun fr H K => rcode (O_laws_szItemS N) τ_laws_szItemS N fin_laws_szItemS c_laws_szItemS_2 fr H K) (finK R_laws_szItemS [.t 4]))) a0 N v1_1 v5_1)).trans (congrArg (fun h => laws_szItemS_l1 h N a0 N v1_1 v5_1) (funext fun ev1_1 => laws_szItemS_x1_0_run N ev1_1))
def F_laws_szItemSR (N : Nat) (laws_szItemS_h1 : List DItem → Int → Int → Option Int) (a0 : List DItem) (a1 : Int) : Option Int :=
  bif (ilt (w64 (a1 - ((a0.length) : Int))) (0 : Int)) then
    some (-1 : Int)
  else
    laws_szItemS_h1 a0 (w64 (a1 - ((a0.length) : Int))) (0 : Int)
def F_laws_szItemS (N : Nat) (a0 : List DItem) (a1 : Int) : Option Int := F_laws_szItemSR N (laws_szItemS_h1 N) a0 a1
theorem F_laws_szItemS_raw (N : Nat) (a0 : List DItem) (a1 : Int) :
    runF (O_laws_szItemS N) N B_laws_szItemS R_laws_szItemS (vals T_laws_szItemS (a0, a1)) = F_laws_szItemSR N (fun a0 v1_1 v5_1 => rloop (fun fr H K => rcode (O_laws_szItemS N) τ_laws_szItemS N fin_laws_szItemS c_laws_szItemS_1 fr H K) [0, 1, 5] [] [1] (blockK 0 (seqK' (fun fr H K => rcode (O_laws_szItemS N) τ_laws_szItemS N fin_laws_szItemS c_laws_szItemS_2 fr H K) (finK R_laws_szItemS [.t 4]))) N [(0, .q tItem a0), (1, .n .i64 v1_1), (5, .n .i64 v5_1)] ⟨1, []⟩) a0 a1 := by kernel_rfl
theorem F_laws_szItemS_run (N : Nat) (a0 : List DItem) (a1 : Int) :
    runF (O_laws_szItemS N) N B_laws_szItemS R_laws_szItemS (vals T_laws_szItemS (a0, a1)) = F_laws_szItemS N a0 a1 :=
  (F_laws_szItemS_raw N a0 a1).trans (congrArg (fun h => F_laws_szItemSR N h a0 a1) (funext fun a0 => funext fun v1_1 => funext fun v5_1 => laws_szItemS_h1_run N a0 v1_1 v5_1))
def P_laws_szItemS (N : Nat) (a0 : List DItem) (a1 : Int) : Bool := lock (F_laws_szItemS N a0 a1).isSome
def G_laws_szItemS (N : Nat) (a0 : List DItem) (a1 : Int) : Int := lock ((F_laws_szItemS N a0 a1).getD (0 : Int))
theorem FG_laws_szItemS {N : Nat} (a0 : List DItem) (a1 : Int) (h : P_laws_szItemS N a0 a1 = true) : F_laws_szItemS N a0 a1 = some (G_laws_szItemS N a0 a1) := by unfold P_laws_szItemS at h; unfold G_laws_szItemS; rw [lock_eq] at h ⊢; exact some_of_isSome h
theorem PG_laws_szItemS {N : Nat} {a0 : List DItem} {a1 : Int} {v : Int} (h : F_laws_szItemS N a0 a1 = some v) : P_laws_szItemS N a0 a1 = true ∧ G_laws_szItemS N a0 a1 = v := by unfold P_laws_szItemS G_laws_szItemS; rw [h, lock_eq, lock_eq]; exact ⟨rfl, rfl⟩
def o_laws_szItemS (N : Nat) : List V → Bool × V := mkO T_laws_szItemS R_laws_szItemS (fun (x : (List DItem × Int)) => P_laws_szItemS N x.1 x.2) (fun (x : (List DItem × Int)) => G_laws_szItemS N x.1 x.2)
theorem laws_szItemS_entry (N : Nat) : Entry Try.prog 60 (o_laws_szItemS N) := Entry.of fun (x : (List DItem × Int)) h =>
  Pf.of_run hm Try.func60 okFn_laws_szItemS B_laws_szItemS_ok B_laws_szItemS_wf (O_laws_szItemS_ok N) rfl ((F_laws_szItemS_run N x.1 x.2).trans (FG_laws_szItemS x.1 x.2 h))
/-! loop.example/g00526/laws.szInt64S -/
abbrev T_laws_szInt64S : List GT := [(.sl (.i .i64)), (.i .i64)]
abbrev R_laws_szInt64S : List GT := [(.i .i64)]
def fin_laws_szInt64S : Fr2 → Hp → Option Int := finF R_laws_szInt64S [.t 4]
def O_laws_szInt64S (N : Nat) : Orac := orc [] []
theorem O_laws_szInt64S_ok (N : Nat) : OrcOk Try.prog (O_laws_szInt64S N) := OrcOk.of trivial trivial
def τ_laws_szInt64S : Nat → Option GT := fun _ => none
def B_laws_szInt64S : F2 := ⟨12, 2, [.t 4], τ_laws_szInt64S,
    .seq (.reg .reg [.op (some 4) (.mov (.c (.n .i64 0)))])
    (.seq (.reg .reg [.op (some 5) (.mov (.t 1)),
      .op (some 6) (.mov (.t 0)),
      .op (some 7) (.len false (.t 6)),
      .op (some 8) (.bin .sub (.t 5) (.t 7)),
      .op (some 1) (.mov (.t 8))])
    (.seq (.seq (.reg .reg [.op (some 9) (.mov (.t 1)),
      .op (some 10) (.bin .lss (.t 9) (.c (.n .i64 0)))])
    (.cond (.t 10) (.seq (.reg .reg [.op (some 4) (.mov (.c (.n .i64 (-1))))])
    (.ret))
    (.skip)))
    (.seq (.reg .reg [.op (some 11) (.mov (.t 1)),
      .op (some 4) (.mov (.t 11))])
    (.ret))))⟩
theorem B_laws_szInt64S_ok : checkFn Try.prog Try.f61 B_laws_szInt64S.toA = true := by kernel_rfl
theorem B_laws_szInt64S_wf : B_laws_szInt64S.body.wf = true := by kernel_rfl
theorem okFn_laws_szInt64S : okFn Try.prog 61 = true := by kernel_rfl
def F_laws_szInt64S (N : Nat) (a0 : List Int) (a1 : Int) : Option Int :=
  bif (ilt (w64 (a1 - ((a0.length) : Int))) (0 : Int)) then
    some (-1 : Int)
  else
    some (w64 (a1 - ((a0.length) : Int)))
theorem F_laws_szInt64S_run (N : Nat) (a0 : List Int) (a1 : Int) :
    runF (O_laws_szInt64S N) N B_laws_szInt64S R_laws_szInt64S (vals T_laws_szInt64S (a0, a1)) = F_laws_szInt64S N a0 a1 := by kernel_rfl
def G_laws_szInt64S (a0 : List Int) (a1 : Int) : Int :=
  bif (ilt (w64 (a1 - ((a0.length) : Int))) (0 : Int)) then
    (-1 : Int)
  else
    (w64 (a1 - ((a0.length) : Int)))
theorem FG_laws_szInt64S (N : Nat) (a0 : List Int) (a1 : Int) : F_laws_szInt64S N a0 a1 = some (G_laws_szInt64S a0 a1) := by
  first | rfl | (simp only [F_laws_szInt64S, G_laws_szInt64S, cond_some]; done) | (unfold F_laws_szInt64S G_laws_szInt64S; simp only [cond_some]; done)
def o_laws_szInt64S : List V → Bool × V := mkO T_laws_szInt64S R_laws_szInt64S (fun (x : (List Int × Int)) => true) (fun (x : (List Int × Int)) => G_laws_szInt64S x.1 x.2)
theorem laws_szInt64S_entry : Entry Try.prog 61 o_laws_szInt64S := Entry.of fun (x : (List Int × Int)) _ =>
  Pf.of_run hm Try.func61 okFn_laws_szInt64S B_laws_szInt64S_ok B_laws_szInt64S_wf (O_laws_szInt64S_ok 0) rfl ((F_laws_szInt64S_run 0 x.1 x.2).trans (FG_laws_szInt64S 0 x.1 x.2))
/-! loop.example/g00526/laws.szKeeper -/
abbrev T_laws_szKeeper : List GT := [tKeeper, (.i .i64)]
abbrev R_laws_szKeeper : List GT := [(.i .i64)]
def fin_laws_szKeeper : Fr2 → Hp → Option Int := finF R_laws_szKeeper [.t 4]
def O_laws_szKeeper (N : Nat) : Orac := orc [(60, o_laws_szItemS N), (61, o_laws_szInt64S)] []
theorem O_laws_szKeeper_ok (N : Nat) : OrcOk Try.prog (O_laws_szKeeper N) := OrcOk.of ⟨laws_szItemS_entry N, laws_szInt64S_entry, trivial⟩ trivial
def τ_laws_szKeeper : Nat → Option GT := fun _ => none
def B_laws_szKeeper : F2 := ⟨24, 2, [.t 4], τ_laws_szKeeper,
    .seq (.reg .reg [.op (some 2) (.box (.t 0)),
      .op (some 4) (.mov (.c (.n .i64 0)))])
    (.seq (.reg .reg [.op (some 5) (.fad 3 (.t 2)),
      .op (some 6) (.load 1 false (.t 5)),
      .op (some 7) (.mov (.t 1)),
      .op (some 8) (.call (.c (.f 60 [])) [.t 6, .t 7]),
      .op (some 1) (.mov (.t 8))])
    (.seq (.seq (.reg .reg [.op (some 9) (.mov (.t 1)),
      .op (some 10) (.bin .lss (.t 9) (.c (.n .i64 0)))])
    (.cond (.t 10) (.seq (.reg .reg [.op (some 4) (.mov (.c (.n .i64 (-1))))])
    (.ret))
    (.skip)))
    (.seq (.reg .reg [.op (some 11) (.fad 7 (.t 2)),
      .op (some 12) (.load 1 false (.t 11)),
      .op (some 13) (.mov (.t 1)),
      .op (some 14) (.call (.c (.f 61 [])) [.t 12, .t 13]),
      .op (some 1) (.mov (.t 14))])
    (.seq (.seq (.reg .reg [.op (some 15) (.mov (.t 1)),
      .op (some 16) (.bin .lss (.t 15) (.c (.n .i64 0)))])
    (.cond (.t 16) (.seq (.reg .reg [.op (some 4) (.mov (.c (.n .i64 (-1))))])
    (.ret))
    (.skip)))
    (.seq (.reg .reg [.op (some 17) (.fad 8 (.t 2)),
      .op (some 18) (.load 1 false (.t 17)),
      .op (some 19) (.mov (.t 1)),
      .op (some 20) (.call (.c (.f 61 [])) [.t 18, .t 19]),
      .op (some 1) (.mov (.t 20))])
    (.seq (.seq (.reg .reg [.op (some 21) (.mov (.t 1)),
      .op (some 22) (.bin .lss (.t 21) (.c (.n .i64 0)))])
    (.cond (.t 22) (.seq (.reg .reg [.op (some 4) (.mov (.c (.n .i64 (-1))))])
    (.ret))
    (.skip)))
    (.seq (.reg .reg [.op (some 23) (.mov (.t 1)),
      .op (some 4) (.mov (.t 23))])
    (.ret))))))))⟩
theorem B_laws_szKeeper_ok : checkFn Try.prog Try.f14 B_laws_szKeeper.toA = true := by kernel_rfl
theorem B_laws_szKeeper_wf : B_laws_szKeeper.body.wf = true := by kernel_rfl
theorem okFn_laws_szKeeper : okFn Try.prog 14 = true := by kernel_rfl
def F_laws_szKeeper (N : Nat) (a0 : DKeeper) (a1 : Int) : Option Int :=
  chk (P_laws_szItemS N a0.2.2.2.1 a1) <|
  bif (ilt (G_laws_szItemS N a0.2.2.2.1 a1) (0 : Int)) then
    some (-1 : Int)
  else
    bif (ilt (G_laws_szInt64S a0.2.2.2.2.2.2.2.1 (G_laws_szItemS N a0.2.2.2.1 a1)) (0 : Int)) then
      some (-1 : Int)
    else
      bif (ilt (G_laws_szInt64S a0.2.2.2.2.2.2.2.2.1 (G_laws_szInt64S a0.2.2.2.2.2.2.2.1 (G_laws_szItemS N a0.2.2.2.1 a1))) (0 : Int)) then
        some (-1 : Int)
      else
        some (G_laws_szInt64S a0.2.2.2.2.2.2.2.2.1 (G_laws_szInt64S a0.2.2.2.2.2.2.2.1 (G_laws_szItemS N a0.2.2.2.1 a1)))
theorem F_laws_szKeeper_run (N : Nat) (a0 : DKeeper) (a1 : Int) :
    runF (O_laws_szKeeper N) N B_laws_szKeeper R_laws_szKeeper (vals T_laws_szKeeper (a0, a1)) = F_laws_szKeeper N a0 a1 := by kernel_rfl
def P_laws_szKeeper (N : Nat) (a0 : DKeeper) (a1 : Int) : Bool := lock (F_laws_szKeeper N a0 a1).isSome
def G_laws_szKeeper (N : Nat) (a0 : DKeeper) (a1 : Int) : Int := lock ((F_laws_szKeeper N a0 a1).getD (0 : Int))
theorem FG_laws_szKeeper {N : Nat} (a0 : DKeeper) (a1 : Int) (h : P_laws_szKeeper N a0 a1 = true) : F_laws_szKeeper N a0 a1 = some (G_laws_szKeeper N a0 a1) := by unfold P_laws_szKeeper at h; unfold G_laws_szKeeper; rw [lock_eq] at h ⊢; exact some_of_isSome h
theorem PG_laws_szKeeper {N : Nat} {a0 : DKeeper} {a1 : Int} {v : Int} (h : F_laws_szKeeper N a0 a1 = some v) : P_laws_szKeeper N a0 a1 = true ∧ G_laws_szKeeper N a0 a1 = v := by unfold P_laws_szKeeper G_laws_szKeeper; rw [h, lock_eq, lock_eq]; exact ⟨rfl, rfl⟩
def o_laws_szKeeper (N : Nat) : List V → Bool × V := mkO T_laws_szKeeper R_laws_szKeeper (fun (x : (DKeeper × Int)) => P_laws_szKeeper N x.1 x.2) (fun (x : (DKeeper × Int)) => G_laws_szKeeper N x.1 x.2)
theorem laws_szKeeper_entry (N : Nat) : Entry Try.prog 14 (o_laws_szKeeper N) := Entry.of fun (x : (DKeeper × Int)) h =>
  Pf.of_run hm Try.func14 okFn_laws_szKeeper B_laws_szKeeper_ok B_laws_szKeeper_wf (O_laws_szKeeper_ok N) rfl ((F_laws_szKeeper_run N x.1 x.2).trans (FG_laws_szKeeper x.1 x.2 h))
/-! loop.example/g00526/laws.szKeeperS -/
abbrev T_laws_szKeeperS : List GT := [(.sl tKeeper), (.i .i64)]
abbrev R_laws_szKeeperS : List GT := [(.i .i64)]
def fin_laws_szKeeperS : Fr2 → Hp → Option Int := finF R_laws_szKeeperS [.t 4]
def O_laws_szKeeperS (N : Nat) : Orac := orc [(14, o_laws_szKeeper N)] []
theorem O_laws_szKeeperS_ok (N : Nat) : OrcOk Try.prog (O_laws_szKeeperS N) := OrcOk.of ⟨laws_szKeeper_entry N, trivial⟩ trivial
def c_laws_szKeeperS_1 : C2 :=
    .seq (.seq (.reg .reg [.op (some 12) (.mov (.t 5)),
      .op (some 13) (.mov (.t 0)),
      .op (some 14) (.len false (.t 13)),
      .op (some 15) (.bin .lss (.t 12) (.t 14))])
    (.cond (.t 15) (.skip)
    (.exit 0)))
    (.seq (.block 1 (.seq (.reg .reg [.op (some 18) (.mov (.t 0)),
      .op (some 19) (.mov (.t 5)),
      .op (some 20) (.iad 10 (.t 18) (.t 19)),
      .op (some 21) (.load 10 true (.t 20)),
      .op (some 22) (.mov (.t 1)),
      .op (some 23) (.call (.c (.f 14 [])) [.t 21, .t 22]),
      .op (some 1) (.mov (.t 23))])
    (.seq (.reg .reg [.op (some 24) (.mov (.t 1)),
      .op (some 25) (.bin .lss (.t 24) (.c (.n .i64 0)))])
    (.cond (.t 25) (.seq (.reg .reg [.op (some 4) (.mov (.c (.n .i64 (-1))))])
    (.ret))
    (.skip)))))
    (.reg .reg [.op (some 16) (.mov (.t 5)),
      .op (some 17) (.bin .add (.t 16) (.c (.n .i64 1))),
      .op (some 5) (.mov (.t 17))]))
def c_laws_szKeeperS_2 : C2 :=
    .seq (.reg .reg [.op (some 26) (.mov (.t 1)),
      .op (some 4) (.mov (.t 26))])
    (.ret)
def τ_laws_szKeeperS : Nat → Option GT := fun _ => none
def B_laws_szKeeperS : F2 := ⟨27, 2, [.t 4], τ_laws_szKeeperS,
    .seq (.reg .reg [.op (some 4) (.mov (.c (.n .i64 0)))])
    (.seq (.reg .reg [.op (some 6) (.mov (.t 1)),
      .op (some 7) (.mov (.t 0)),
      .op (some 8) (.len false (.t 7)),
      .op (some 9) (.bin .sub (.t 6) (.t 8)),
      .op (some 1) (.mov (.t 9))])
    (.seq (.seq (.reg .reg [.op (some 10) (.mov (.t 1)),
      .op (some 11) (.bin .lss (.t 10) (.c (.n .i64 0)))])
    (.cond (.t 11) (.seq (.reg .reg [.op (some 4) (.mov (.c (.n .i64 (-1))))])
    (.ret))
    (.skip)))
    (.seq (.seq (.reg .reg [.op (some 5) (.mov (.c (.n .i64 0)))])
    (.block 0 (.loop [0, 1, 5] [] [1] c_laws_szKeeperS_1)))
    (c_laws_szKeeperS_2))))⟩
theorem B_laws_szKeeperS_ok : checkFn Try.prog Try.f85 B_laws_szKeeperS.toA = true := by kernel_rfl
theorem B_laws_szKeeperS_wf : B_laws_szKeeperS.body.wf = true := by kernel_rfl
theorem okFn_laws_szKeeperS : okFn Try.prog 85 = true := by kernel_rfl
def laws_szKeeperS_l1s (r0 : Int → Int → Option Int) (k0_0 : Int → Option Int) (N : Nat) (a0 : List DKeeper) (v1_1 : Int) (v5_1 : Int) : Option Int :=
  bif (ilt v5_1 ((a0.length) : Int)) then
    let x1 : DKeeper := (a0.getD (v5_1.toNat) dKeeper)
    chk (inb v5_1 (a0.length)) <|
    chk (P_laws_szKeeper N x1 v1_1) <|
    bif (ilt (G_laws_szKeeper N x1 v1_1) (0 : Int)) then
      some (-1 : Int)
    else
      r0 (G_laws_szKeeper N x1 v1_1) (w64 (v5_1 + (1 : Int)))
  else
    k0_0 v1_1
theorem laws_szKeeperS_l1s_run (N : Nat) (C0 : Fr2 → Hp → Option Int) (K0 : Option Nat → Fr2 → Hp → Option Int) (a0 : List DKeeper) (v1_1 : Int) (v5_1 : Int) :
    rcode (O_laws_szKeeperS N) τ_laws_szKeeperS N fin_laws_szKeeperS c_laws_szKeeperS_1 [(0, .q tKeeper a0), (1, .n .i64 v1_1), (5, .n .i64 v5_1)] ⟨1, []⟩ (roundK [0, 1, 5] [] [1] C0 K0) = laws_szKeeperS_l1s (fun v1_1 v5_1 => C0 [(0, .q tKeeper a0), (1, .n .i64 v1_1), (5, .n .i64 v5_1)] ⟨1, []⟩) (fun ev1_1 => K0 (some 0) [(1, .n .i64 ev1_1)] ⟨1, []⟩) N a0 v1_1 v5_1 := by kernel_rfl
def laws_szKeeperS_x1_0 (N : Nat) (ev1_1 : Int) : Option Int :=
  some ev1_1
theorem laws_szKeeperS_x1_0_run (N : Nat) (ev1_1 : Int) :
    (blockK 0 (seqK' (fun fr H K => rcode (O_laws_szKeeperS N) τ_laws_szKeeperS N fin_laws_szKeeperS c_laws_szKeeperS_2 fr H K) (finK R_laws_szKeeperS [.t 4]))) (some 0) [(1, .n .i64 ev1_1)] ⟨1, []⟩ = laws_szKeeperS_x1_0 N ev1_1 := by kernel_rfl
def laws_szKeeperS_l1 (k0_0 : Int → Option Int) (N : Nat) (a0 : List DKeeper) : Nat → Int → Int → Option Int
  | 0, _, _ => none
  | n + 1, v1_1, v5_1 => laws_szKeeperS_l1s (laws_szKeeperS_l1 k0_0 N a0 n) k0_0 N a0 v1_1 v5_1
def laws_szKeeperS_h1 (N : Nat) (a0 : List DKeeper) (v1_1 : Int) (v5_1 : Int) : Option Int :=
  laws_szKeeperS_l1 (fun ev1_1 => laws_szKeeperS_x1_0 N ev1_1) N a0 N v1_1 v5_1
theorem laws_szKeeperS_l1_run (N : Nat)  (K : Option Nat → Fr2 → Hp → Option Int) (a0 : List DKeeper) : ∀ (n : Nat) (v1_1 : Int) (v5_1 : Int),
    rloop (fun fr H K => rcode (O_laws_szKeeperS N) τ_laws_szKeeperS N fin_laws_szKeeperS c_laws_szKeeperS_1 fr H K) [0, 1, 5] [] [1] K n [(0, .q tKeeper a0), (1, .n .i64 v1_1), (5, .n .i64 v5_1)] ⟨1, []⟩ = laws_szKeeperS_l1 (fun ev1_1 => K (some 0) [(1, .n .i64 ev1_1)] ⟨1, []⟩) N a0 n v1_1 v5_1 := by
  intro n
  induction n with
  | zero => intro v1_1 v5_1; kernel_rfl
  | succ n ih => intro v1_1 v5_1; exact (laws_szKeeperS_l1s_run N (rloop (fun fr H K => rcode (O_laws_szKeeperS N) τ_laws_szKeeperS N fin_laws_szKeeperS c_laws_szKeeperS_1 fr H K) [0, 1, 5] [] [1] K n) K a0 v1_1 v5_1).trans (congrArg (fun r => laws_szKeeperS_l1s r (fun ev1_1 => K (some 0) [(1, .n .i64 ev1_1)] ⟨1, []⟩) N a0 v1_1 v5_1) (funext fun v1_1 => funext fun v5_1 => ih v1_1 v5_1))
theorem laws_szKeeperS_h1_run (N : Nat) (a0 : List DKeeper) (v1_1 : Int) (v5_1 : Int) : rloop (fun fr H K => rcode (O_laws_szKeeperS N) τ_laws_szKeeperS N fin_laws_szKeeperS c_laws_szKeeperS_1 fr H K) [0, 1, 5] [] [1] (blockK 0 (seqK' (fun fr H K => rcode (O_laws_szKeeperS N) τ_laws_szKeeperS N fin_laws_szKeeperS c_laws_szKeeperS_2 fr H K) (finK R_laws_szKeeperS [.t 4]))) N [(0, .q tKeeper a0), (1, .n .i64 v1_1), (5, .n .i64 v5_1)] ⟨1, []⟩ = laws_szKeeperS_h1 N a0 v1_1 v5_1 :=
  ((laws_szKeeperS_l1_run N (blockK 0 (seqK' (fun fr H K => rcode (O_laws_szKeeperS N) τ_laws_szKeeperS N fin_laws_szKeeperS c_laws_szKeeperS_2 fr H K) (finK R_laws_szKeeperS [.t 4]))) a0 N v1_1 v5_1)).trans (congrArg (fun h => laws_szKeeperS_l1 h N a0 N v1_1 v5_1) (funext fun ev1_1 => laws_szKeeperS_x1_0_run N ev1_1))
def F_laws_szKeeperSR (N : Nat) (laws_szKeeperS_h1 : List DKeeper → Int → Int → Option Int) (a0 : List DKeeper) (a1 : Int) : Option Int :=
  bif (ilt (w64 (a1 - ((a0.length) : Int))) (0 : Int)) then
    some (-1 : Int)
  else
    laws_szKeeperS_h1 a0 (w64 (a1 - ((a0.length) : Int))) (0 : Int)
def F_laws_szKeeperS (N : Nat) (a0 : List DKeeper) (a1 : Int) : Option Int := F_laws_szKeeperSR N (laws_szKeeperS_h1 N) a0 a1
theorem F_laws_szKeeperS_raw (N : Nat) (a0 : List DKeeper) (a1 : Int) :
    runF (O_laws_szKeeperS N) N B_laws_szKeeperS R_laws_szKeeperS (vals T_laws_szKeeperS (a0, a1)) = F_laws_szKeeperSR N (fun a0 v1_1 v5_1 => rloop (fun fr H K => rcode (O_laws_szKeeperS N) τ_laws_szKeeperS N fin_laws_szKeeperS c_laws_szKeeperS_1 fr H K) [0, 1, 5] [] [1] (blockK 0 (seqK' (fun fr H K => rcode (O_laws_szKeeperS N) τ_laws_szKeeperS N fin_laws_szKeeperS c_laws_szKeeperS_2 fr H K) (finK R_laws_szKeeperS [.t 4]))) N [(0, .q tKeeper a0), (1, .n .i64 v1_1), (5, .n .i64 v5_1)] ⟨1, []⟩) a0 a1 := by kernel_rfl
theorem F_laws_szKeeperS_run (N : Nat) (a0 : List DKeeper) (a1 : Int) :
    runF (O_laws_szKeeperS N) N B_laws_szKeeperS R_laws_szKeeperS (vals T_laws_szKeeperS (a0, a1)) = F_laws_szKeeperS N a0 a1 :=
  (F_laws_szKeeperS_raw N a0 a1).trans (congrArg (fun h => F_laws_szKeeperSR N h a0 a1) (funext fun a0 => funext fun v1_1 => funext fun v5_1 => laws_szKeeperS_h1_run N a0 v1_1 v5_1))
def P_laws_szKeeperS (N : Nat) (a0 : List DKeeper) (a1 : Int) : Bool := lock (F_laws_szKeeperS N a0 a1).isSome
def G_laws_szKeeperS (N : Nat) (a0 : List DKeeper) (a1 : Int) : Int := lock ((F_laws_szKeeperS N a0 a1).getD (0 : Int))
theorem FG_laws_szKeeperS {N : Nat} (a0 : List DKeeper) (a1 : Int) (h : P_laws_szKeeperS N a0 a1 = true) : F_laws_szKeeperS N a0 a1 = some (G_laws_szKeeperS N a0 a1) := by unfold P_laws_szKeeperS at h; unfold G_laws_szKeeperS; rw [lock_eq] at h ⊢; exact some_of_isSome h
theorem PG_laws_szKeeperS {N : Nat} {a0 : List DKeeper} {a1 : Int} {v : Int} (h : F_laws_szKeeperS N a0 a1 = some v) : P_laws_szKeeperS N a0 a1 = true ∧ G_laws_szKeeperS N a0 a1 = v := by unfold P_laws_szKeeperS G_laws_szKeeperS; rw [h, lock_eq, lock_eq]; exact ⟨rfl, rfl⟩
def o_laws_szKeeperS (N : Nat) : List V → Bool × V := mkO T_laws_szKeeperS R_laws_szKeeperS (fun (x : (List DKeeper × Int)) => P_laws_szKeeperS N x.1 x.2) (fun (x : (List DKeeper × Int)) => G_laws_szKeeperS N x.1 x.2)
theorem laws_szKeeperS_entry (N : Nat) : Entry Try.prog 85 (o_laws_szKeeperS N) := Entry.of fun (x : (List DKeeper × Int)) h =>
  Pf.of_run hm Try.func85 okFn_laws_szKeeperS B_laws_szKeeperS_ok B_laws_szKeeperS_wf (O_laws_szKeeperS_ok N) rfl ((F_laws_szKeeperS_run N x.1 x.2).trans (FG_laws_szKeeperS x.1 x.2 h))
/-! loop.example/g00526/laws.szLetter -/
abbrev T_laws_szLetter : List GT := [tLetter, (.i .i64)]
abbrev R_laws_szLetter : List GT := [(.i .i64)]
def fin_laws_szLetter : Fr2 → Hp → Option Int := finF R_laws_szLetter [.t 4]
def O_laws_szLetter (N : Nat) : Orac := orc [(60, o_laws_szItemS N)] []
theorem O_laws_szLetter_ok (N : Nat) : OrcOk Try.prog (O_laws_szLetter N) := OrcOk.of ⟨laws_szItemS_entry N, trivial⟩ trivial
def τ_laws_szLetter : Nat → Option GT := fun _ => none
def B_laws_szLetter : F2 := ⟨12, 2, [.t 4], τ_laws_szLetter,
    .seq (.reg .reg [.op (some 2) (.box (.t 0)),
      .op (some 4) (.mov (.c (.n .i64 0)))])
    (.seq (.reg .reg [.op (some 5) (.fad 6 (.t 2)),
      .op (some 6) (.load 1 false (.t 5)),
      .op (some 7) (.mov (.t 1)),
      .op (some 8) (.call (.c (.f 60 [])) [.t 6, .t 7]),
      .op (some 1) (.mov (.t 8))])
    (.seq (.seq (.reg .reg [.op (some 9) (.mov (.t 1)),
      .op (some 10) (.bin .lss (.t 9) (.c (.n .i64 0)))])
    (.cond (.t 10) (.seq (.reg .reg [.op (some 4) (.mov (.c (.n .i64 (-1))))])
    (.ret))
    (.skip)))
    (.seq (.reg .reg [.op (some 11) (.mov (.t 1)),
      .op (some 4) (.mov (.t 11))])
    (.ret))))⟩
theorem B_laws_szLetter_ok : checkFn Try.prog Try.f56 B_laws_szLetter.toA = true := by kernel_rfl
theorem B_laws_szLetter_wf : B_laws_szLetter.body.wf = true := by kernel_rfl
theorem okFn_laws_szLetter : okFn Try.prog 56 = true := by kernel_rfl
def F_laws_szLetter (N : Nat) (a0 : DLetter) (a1 : Int) : Option Int :=
  chk (P_laws_szItemS N a0.2.2.2.2.2.2.1 a1) <|
  bif (ilt (G_laws_szItemS N a0.2.2.2.2.2.2.1 a1) (0 : Int)) then
    some (-1 : Int)
  else
    some (G_laws_szItemS N a0.2.2.2.2.2.2.1 a1)
theorem F_laws_szLetter_run (N : Nat) (a0 : DLetter) (a1 : Int) :
    runF (O_laws_szLetter N) N B_laws_szLetter R_laws_szLetter (vals T_laws_szLetter (a0, a1)) = F_laws_szLetter N a0 a1 := by kernel_rfl
def P_laws_szLetter (N : Nat) (a0 : DLetter) (a1 : Int) : Bool := lock (F_laws_szLetter N a0 a1).isSome
def G_laws_szLetter (N : Nat) (a0 : DLetter) (a1 : Int) : Int := lock ((F_laws_szLetter N a0 a1).getD (0 : Int))
theorem FG_laws_szLetter {N : Nat} (a0 : DLetter) (a1 : Int) (h : P_laws_szLetter N a0 a1 = true) : F_laws_szLetter N a0 a1 = some (G_laws_szLetter N a0 a1) := by unfold P_laws_szLetter at h; unfold G_laws_szLetter; rw [lock_eq] at h ⊢; exact some_of_isSome h
theorem PG_laws_szLetter {N : Nat} {a0 : DLetter} {a1 : Int} {v : Int} (h : F_laws_szLetter N a0 a1 = some v) : P_laws_szLetter N a0 a1 = true ∧ G_laws_szLetter N a0 a1 = v := by unfold P_laws_szLetter G_laws_szLetter; rw [h, lock_eq, lock_eq]; exact ⟨rfl, rfl⟩
def o_laws_szLetter (N : Nat) : List V → Bool × V := mkO T_laws_szLetter R_laws_szLetter (fun (x : (DLetter × Int)) => P_laws_szLetter N x.1 x.2) (fun (x : (DLetter × Int)) => G_laws_szLetter N x.1 x.2)
theorem laws_szLetter_entry (N : Nat) : Entry Try.prog 56 (o_laws_szLetter N) := Entry.of fun (x : (DLetter × Int)) h =>
  Pf.of_run hm Try.func56 okFn_laws_szLetter B_laws_szLetter_ok B_laws_szLetter_wf (O_laws_szLetter_ok N) rfl ((F_laws_szLetter_run N x.1 x.2).trans (FG_laws_szLetter x.1 x.2 h))
/-! loop.example/g00526/laws.szLetterS -/
abbrev T_laws_szLetterS : List GT := [(.sl tLetter), (.i .i64)]
abbrev R_laws_szLetterS : List GT := [(.i .i64)]
def fin_laws_szLetterS : Fr2 → Hp → Option Int := finF R_laws_szLetterS [.t 4]
def O_laws_szLetterS (N : Nat) : Orac := orc [(56, o_laws_szLetter N)] []
theorem O_laws_szLetterS_ok (N : Nat) : OrcOk Try.prog (O_laws_szLetterS N) := OrcOk.of ⟨laws_szLetter_entry N, trivial⟩ trivial
def c_laws_szLetterS_1 : C2 :=
    .seq (.seq (.reg .reg [.op (some 12) (.mov (.t 5)),
      .op (some 13) (.mov (.t 0)),
      .op (some 14) (.len false (.t 13)),
      .op (some 15) (.bin .lss (.t 12) (.t 14))])
    (.cond (.t 15) (.skip)
    (.exit 0)))
    (.seq (.block 1 (.seq (.reg .reg [.op (some 18) (.mov (.t 0)),
      .op (some 19) (.mov (.t 5)),
      .op (some 20) (.iad 9 (.t 18) (.t 19)),
      .op (some 21) (.load 9 true (.t 20)),
      .op (some 22) (.mov (.t 1)),
      .op (some 23) (.call (.c (.f 56 [])) [.t 21, .t 22]),
      .op (some 1) (.mov (.t 23))])
    (.seq (.reg .reg [.op (some 24) (.mov (.t 1)),
      .op (some 25) (.bin .lss (.t 24) (.c (.n .i64 0)))])
    (.cond (.t 25) (.seq (.reg .reg [.op (some 4) (.mov (.c (.n .i64 (-1))))])
    (.ret))
    (.skip)))))
    (.reg .reg [.op (some 16) (.mov (.t 5)),
      .op (some 17) (.bin .add (.t 16) (.c (.n .i64 1))),
      .op (some 5) (.mov (.t 17))]))
def c_laws_szLetterS_2 : C2 :=
    .seq (.reg .reg [.op (some 26) (.mov (.t 1)),
      .op (some 4) (.mov (.t 26))])
    (.ret)
def τ_laws_szLetterS : Nat → Option GT := fun _ => none
def B_laws_szLetterS : F2 := ⟨27, 2, [.t 4], τ_laws_szLetterS,
    .seq (.reg .reg [.op (some 4) (.mov (.c (.n .i64 0)))])
    (.seq (.reg .reg [.op (some 6) (.mov (.t 1)),
      .op (some 7) (.mov (.t 0)),
      .op (some 8) (.len false (.t 7)),
      .op (some 9) (.bin .sub (.t 6) (.t 8)),
      .op (some 1) (.mov (.t 9))])
    (.seq (.seq (.reg .reg [.op (some 10) (.mov (.t 1)),
      .op (some 11) (.bin .lss (.t 10) (.c (.n .i64 0)))])
    (.cond (.t 11) (.seq (.reg .reg [.op (some 4) (.mov (.c (.n .i64 (-1))))])
    (.ret))
    (.skip)))
    (.seq (.seq (.reg .reg [.op (some 5) (.mov (.c (.n .i64 0)))])
    (.block 0 (.loop [0, 1, 5] [] [1] c_laws_szLetterS_1)))
    (c_laws_szLetterS_2))))⟩
theorem B_laws_szLetterS_ok : checkFn Try.prog Try.f86 B_laws_szLetterS.toA = true := by kernel_rfl
theorem B_laws_szLetterS_wf : B_laws_szLetterS.body.wf = true := by kernel_rfl
theorem okFn_laws_szLetterS : okFn Try.prog 86 = true := by kernel_rfl
def laws_szLetterS_l1s (r0 : Int → Int → Option Int) (k0_0 : Int → Option Int) (N : Nat) (a0 : List DLetter) (v1_1 : Int) (v5_1 : Int) : Option Int :=
  bif (ilt v5_1 ((a0.length) : Int)) then
    let x1 : DLetter := (a0.getD (v5_1.toNat) dLetter)
    chk (inb v5_1 (a0.length)) <|
    chk (P_laws_szLetter N x1 v1_1) <|
    bif (ilt (G_laws_szLetter N x1 v1_1) (0 : Int)) then
      some (-1 : Int)
    else
      r0 (G_laws_szLetter N x1 v1_1) (w64 (v5_1 + (1 : Int)))
  else
    k0_0 v1_1
theorem laws_szLetterS_l1s_run (N : Nat) (C0 : Fr2 → Hp → Option Int) (K0 : Option Nat → Fr2 → Hp → Option Int) (a0 : List DLetter) (v1_1 : Int) (v5_1 : Int) :
    rcode (O_laws_szLetterS N) τ_laws_szLetterS N fin_laws_szLetterS c_laws_szLetterS_1 [(0, .q tLetter a0), (1, .n .i64 v1_1), (5, .n .i64 v5_1)] ⟨1, []⟩ (roundK [0, 1, 5] [] [1] C0 K0) = laws_szLetterS_l1s (fun v1_1 v5_1 => C0 [(0, .q tLetter a0), (1, .n .i64 v1_1), (5, .n .i64 v5_1)] ⟨1, []⟩) (fun ev1_1 => K0 (some 0) [(1, .n .i64 ev1_1)] ⟨1, []⟩) N a0 v1_1 v5_1 := by kernel_rfl
def laws_szLetterS_x1_0 (N : Nat) (ev1_1 : Int) : Option Int :=
  some ev1_1
theorem laws_szLetterS_x1_0_run (N : Nat) (ev1_1 : Int) :
    (blockK 0 (seqK' (fun fr H K => rcode (O_laws_szLetterS N) τ_laws_szLetterS N fin_laws_szLetterS c_laws_szLetterS_2 fr H K) (finK R_laws_szLetterS [.t 4]))) (some 0) [(1, .n .i64 ev1_1)] ⟨1, []⟩ = laws_szLetterS_x1_0 N ev1_1 := by kernel_rfl
def laws_szLetterS_l1 (k0_0 : Int → Option Int) (N : Nat) (a0 : List DLetter) : Nat → Int → Int → Option Int
  | 0, _, _ => none
  | n + 1, v1_1, v5_1 => laws_szLetterS_l1s (laws_szLetterS_l1 k0_0 N a0 n) k0_0 N a0 v1_1 v5_1
def laws_szLetterS_h1 (N : Nat) (a0 : List DLetter) (v1_1 : Int) (v5_1 : Int) : Option Int :=
  laws_szLetterS_l1 (fun ev1_1 => laws_szLetterS_x1_0 N ev1_1) N a0 N v1_1 v5_1
theorem laws_szLetterS_l1_run (N : Nat)  (K : Option Nat → Fr2 → Hp → Option Int) (a0 : List DLetter) : ∀ (n : Nat) (v1_1 : Int) (v5_1 : Int),
    rloop (fun fr H K => rcode (O_laws_szLetterS N) τ_laws_szLetterS N fin_laws_szLetterS c_laws_szLetterS_1 fr H K) [0, 1, 5] [] [1] K n [(0, .q tLetter a0), (1, .n .i64 v1_1), (5, .n .i64 v5_1)] ⟨1, []⟩ = laws_szLetterS_l1 (fun ev1_1 => K (some 0) [(1, .n .i64 ev1_1)] ⟨1, []⟩) N a0 n v1_1 v5_1 := by
  intro n
  induction n with
  | zero => intro v1_1 v5_1; kernel_rfl
  | succ n ih => intro v1_1 v5_1; exact (laws_szLetterS_l1s_run N (rloop (fun fr H K => rcode (O_laws_szLetterS N) τ_laws_szLetterS N fin_laws_szLetterS c_laws_szLetterS_1 fr H K) [0, 1, 5] [] [1] K n) K a0 v1_1 v5_1).trans (congrArg (fun r => laws_szLetterS_l1s r (fun ev1_1 => K (some 0) [(1, .n .i64 ev1_1)] ⟨1, []⟩) N a0 v1_1 v5_1) (funext fun v1_1 => funext fun v5_1 => ih v1_1 v5_1))
theorem laws_szLetterS_h1_run (N : Nat) (a0 : List DLetter) (v1_1 : Int) (v5_1 : Int) : rloop (fun fr H K => rcode (O_laws_szLetterS N) τ_laws_szLetterS N fin_laws_szLetterS c_laws_szLetterS_1 fr H K) [0, 1, 5] [] [1] (blockK 0 (seqK' (fun fr H K => rcode (O_laws_szLetterS N) τ_laws_szLetterS N fin_laws_szLetterS c_laws_szLetterS_2 fr H K) (finK R_laws_szLetterS [.t 4]))) N [(0, .q tLetter a0), (1, .n .i64 v1_1), (5, .n .i64 v5_1)] ⟨1, []⟩ = laws_szLetterS_h1 N a0 v1_1 v5_1 :=
  ((laws_szLetterS_l1_run N (blockK 0 (seqK' (fun fr H K => rcode (O_laws_szLetterS N) τ_laws_szLetterS N fin_laws_szLetterS c_laws_szLetterS_2 fr H K) (finK R_laws_szLetterS [.t 4]))) a0 N v1_1 v5_1)).trans (congrArg (fun h => laws_szLetterS_l1 h N a0 N v1_1 v5_1) (funext fun ev1_1 => laws_szLetterS_x1_0_run N ev1_1))
def F_laws_szLetterSR (N : Nat) (laws_szLetterS_h1 : List DLetter → Int → Int → Option Int) (a0 : List DLetter) (a1 : Int) : Option Int :=
  bif (ilt (w64 (a1 - ((a0.length) : Int))) (0 : Int)) then
    some (-1 : Int)
  else
    laws_szLetterS_h1 a0 (w64 (a1 - ((a0.length) : Int))) (0 : Int)
def F_laws_szLetterS (N : Nat) (a0 : List DLetter) (a1 : Int) : Option Int := F_laws_szLetterSR N (laws_szLetterS_h1 N) a0 a1
theorem F_laws_szLetterS_raw (N : Nat) (a0 : List DLetter) (a1 : Int) :
    runF (O_laws_szLetterS N) N B_laws_szLetterS R_laws_szLetterS (vals T_laws_szLetterS (a0, a1)) = F_laws_szLetterSR N (fun a0 v1_1 v5_1 => rloop (fun fr H K => rcode (O_laws_szLetterS N) τ_laws_szLetterS N fin_laws_szLetterS c_laws_szLetterS_1 fr H K) [0, 1, 5] [] [1] (blockK 0 (seqK' (fun fr H K => rcode (O_laws_szLetterS N) τ_laws_szLetterS N fin_laws_szLetterS c_laws_szLetterS_2 fr H K) (finK R_laws_szLetterS [.t 4]))) N [(0, .q tLetter a0), (1, .n .i64 v1_1), (5, .n .i64 v5_1)] ⟨1, []⟩) a0 a1 := by kernel_rfl
theorem F_laws_szLetterS_run (N : Nat) (a0 : List DLetter) (a1 : Int) :
    runF (O_laws_szLetterS N) N B_laws_szLetterS R_laws_szLetterS (vals T_laws_szLetterS (a0, a1)) = F_laws_szLetterS N a0 a1 :=
  (F_laws_szLetterS_raw N a0 a1).trans (congrArg (fun h => F_laws_szLetterSR N h a0 a1) (funext fun a0 => funext fun v1_1 => funext fun v5_1 => laws_szLetterS_h1_run N a0 v1_1 v5_1))
def P_laws_szLetterS (N : Nat) (a0 : List DLetter) (a1 : Int) : Bool := lock (F_laws_szLetterS N a0 a1).isSome
def G_laws_szLetterS (N : Nat) (a0 : List DLetter) (a1 : Int) : Int := lock ((F_laws_szLetterS N a0 a1).getD (0 : Int))
theorem FG_laws_szLetterS {N : Nat} (a0 : List DLetter) (a1 : Int) (h : P_laws_szLetterS N a0 a1 = true) : F_laws_szLetterS N a0 a1 = some (G_laws_szLetterS N a0 a1) := by unfold P_laws_szLetterS at h; unfold G_laws_szLetterS; rw [lock_eq] at h ⊢; exact some_of_isSome h
theorem PG_laws_szLetterS {N : Nat} {a0 : List DLetter} {a1 : Int} {v : Int} (h : F_laws_szLetterS N a0 a1 = some v) : P_laws_szLetterS N a0 a1 = true ∧ G_laws_szLetterS N a0 a1 = v := by unfold P_laws_szLetterS G_laws_szLetterS; rw [h, lock_eq, lock_eq]; exact ⟨rfl, rfl⟩
def o_laws_szLetterS (N : Nat) : List V → Bool × V := mkO T_laws_szLetterS R_laws_szLetterS (fun (x : (List DLetter × Int)) => P_laws_szLetterS N x.1 x.2) (fun (x : (List DLetter × Int)) => G_laws_szLetterS N x.1 x.2)
theorem laws_szLetterS_entry (N : Nat) : Entry Try.prog 86 (o_laws_szLetterS N) := Entry.of fun (x : (List DLetter × Int)) h =>
  Pf.of_run hm Try.func86 okFn_laws_szLetterS B_laws_szLetterS_ok B_laws_szLetterS_wf (O_laws_szLetterS_ok N) rfl ((F_laws_szLetterS_run N x.1 x.2).trans (FG_laws_szLetterS x.1 x.2 h))
/-! loop.example/g00526/laws.szHouse -/
abbrev T_laws_szHouse : List GT := [tHouse, (.i .i64)]
abbrev R_laws_szHouse : List GT := [(.i .i64)]
def fin_laws_szHouse : Fr2 → Hp → Option Int := finF R_laws_szHouse [.t 4]
def O_laws_szHouse (N : Nat) : Orac := orc [(85, o_laws_szKeeperS N), (86, o_laws_szLetterS N)] []
theorem O_laws_szHouse_ok (N : Nat) : OrcOk Try.prog (O_laws_szHouse N) := OrcOk.of ⟨laws_szKeeperS_entry N, laws_szLetterS_entry N, trivial⟩ trivial
def τ_laws_szHouse : Nat → Option GT := fun _ => none
def B_laws_szHouse : F2 := ⟨18, 2, [.t 4], τ_laws_szHouse,
    .seq (.reg .reg [.op (some 2) (.box (.t 0)),
      .op (some 4) (.mov (.c (.n .i64 0)))])
    (.seq (.reg .reg [.op (some 5) (.fad 0 (.t 2)),
      .op (some 6) (.load 1 false (.t 5)),
      .op (some 7) (.mov (.t 1)),
      .op (some 8) (.call (.c (.f 85 [])) [.t 6, .t 7]),
      .op (some 1) (.mov (.t 8))])
    (.seq (.seq (.reg .reg [.op (some 9) (.mov (.t 1)),
      .op (some 10) (.bin .lss (.t 9) (.c (.n .i64 0)))])
    (.cond (.t 10) (.seq (.reg .reg [.op (some 4) (.mov (.c (.n .i64 (-1))))])
    (.ret))
    (.skip)))
    (.seq (.reg .reg [.op (some 11) (.fad 1 (.t 2)),
      .op (some 12) (.load 1 false (.t 11)),
      .op (some 13) (.mov (.t 1)),
      .op (some 14) (.call (.c (.f 86 [])) [.t 12, .t 13]),
      .op (some 1) (.mov (.t 14))])
    (.seq (.seq (.reg .reg [.op (some 15) (.mov (.t 1)),
      .op (some 16) (.bin .lss (.t 15) (.c (.n .i64 0)))])
    (.cond (.t 16) (.seq (.reg .reg [.op (some 4) (.mov (.c (.n .i64 (-1))))])
    (.ret))
    (.skip)))
    (.seq (.reg .reg [.op (some 17) (.mov (.t 1)),
      .op (some 4) (.mov (.t 17))])
    (.ret))))))⟩
theorem B_laws_szHouse_ok : checkFn Try.prog Try.f40 B_laws_szHouse.toA = true := by kernel_rfl
theorem B_laws_szHouse_wf : B_laws_szHouse.body.wf = true := by kernel_rfl
theorem okFn_laws_szHouse : okFn Try.prog 40 = true := by kernel_rfl
def F_laws_szHouse (N : Nat) (a0 : DHouse) (a1 : Int) : Option Int :=
  chk (P_laws_szKeeperS N a0.1 a1) <|
  bif (ilt (G_laws_szKeeperS N a0.1 a1) (0 : Int)) then
    some (-1 : Int)
  else
    chk (P_laws_szLetterS N a0.2 (G_laws_szKeeperS N a0.1 a1)) <|
    bif (ilt (G_laws_szLetterS N a0.2 (G_laws_szKeeperS N a0.1 a1)) (0 : Int)) then
      some (-1 : Int)
    else
      some (G_laws_szLetterS N a0.2 (G_laws_szKeeperS N a0.1 a1))
theorem F_laws_szHouse_run (N : Nat) (a0 : DHouse) (a1 : Int) :
    runF (O_laws_szHouse N) N B_laws_szHouse R_laws_szHouse (vals T_laws_szHouse (a0, a1)) = F_laws_szHouse N a0 a1 := by kernel_rfl
def P_laws_szHouse (N : Nat) (a0 : DHouse) (a1 : Int) : Bool := lock (F_laws_szHouse N a0 a1).isSome
def G_laws_szHouse (N : Nat) (a0 : DHouse) (a1 : Int) : Int := lock ((F_laws_szHouse N a0 a1).getD (0 : Int))
theorem FG_laws_szHouse {N : Nat} (a0 : DHouse) (a1 : Int) (h : P_laws_szHouse N a0 a1 = true) : F_laws_szHouse N a0 a1 = some (G_laws_szHouse N a0 a1) := by unfold P_laws_szHouse at h; unfold G_laws_szHouse; rw [lock_eq] at h ⊢; exact some_of_isSome h
theorem PG_laws_szHouse {N : Nat} {a0 : DHouse} {a1 : Int} {v : Int} (h : F_laws_szHouse N a0 a1 = some v) : P_laws_szHouse N a0 a1 = true ∧ G_laws_szHouse N a0 a1 = v := by unfold P_laws_szHouse G_laws_szHouse; rw [h, lock_eq, lock_eq]; exact ⟨rfl, rfl⟩
def o_laws_szHouse (N : Nat) : List V → Bool × V := mkO T_laws_szHouse R_laws_szHouse (fun (x : (DHouse × Int)) => P_laws_szHouse N x.1 x.2) (fun (x : (DHouse × Int)) => G_laws_szHouse N x.1 x.2)
theorem laws_szHouse_entry (N : Nat) : Entry Try.prog 40 (o_laws_szHouse N) := Entry.of fun (x : (DHouse × Int)) h =>
  Pf.of_run hm Try.func40 okFn_laws_szHouse B_laws_szHouse_ok B_laws_szHouse_wf (O_laws_szHouse_ok N) rfl ((F_laws_szHouse_run N x.1 x.2).trans (FG_laws_szHouse x.1 x.2 h))
/-! loop.example/g00526/laws.toItem -/
abbrev T_laws_toItem : List GT := [tItem]
abbrev R_laws_toItem : List GT := [tItem]
def fin_laws_toItem : Fr2 → Hp → Option DItem := finF R_laws_toItem [.cell 2 2 true]
def O_laws_toItem (N : Nat) : Orac := orc [] []
theorem O_laws_toItem_ok (N : Nat) : OrcOk Try.prog (O_laws_toItem N) := OrcOk.of trivial trivial
def τ_laws_toItem : Nat → Option GT := fun _ => none
def B_laws_toItem : F2 := ⟨11, 1, [.cell 2 2 true], τ_laws_toItem,
    .seq (.reg .reg [.op (some 1) (.box (.t 0)),
      .op (some 2) (.aloc [.n .i64 0, .s ⟨#[]⟩])])
    (.seq (.reg .reg [.op (some 3) (.aloc [.n .i64 0, .s ⟨#[]⟩])])
    (.seq (.reg .reg [.op (some 4) (.fad 0 (.t 1)),
      .op (some 5) (.load 1 false (.t 4)),
      .op (some 6) (.fad 0 (.t 3)),
      .op none (.stor 1 (.t 6) (.t 5))])
    (.seq (.reg .reg [.op (some 7) (.fad 1 (.t 1)),
      .op (some 8) (.load 1 false (.t 7)),
      .op (some 9) (.fad 1 (.t 3)),
      .op none (.stor 1 (.t 9) (.t 8))])
    (.seq (.reg .reg [.op (some 10) (.load 2 true (.t 3)),
      .op none (.stor 2 (.t 2) (.t 10))])
    (.ret)))))⟩
theorem B_laws_toItem_ok : checkFn Try.prog Try.f100 B_laws_toItem.toA = true := by kernel_rfl
theorem B_laws_toItem_wf : B_laws_toItem.body.wf = true := by kernel_rfl
theorem okFn_laws_toItem : okFn Try.prog 100 = true := by kernel_rfl
def F_laws_toItem (N : Nat) (a0 : DItem) : Option DItem :=
  some a0
theorem F_laws_toItem_run (N : Nat) (a0 : DItem) :
    runF (O_laws_toItem N) N B_laws_toItem R_laws_toItem (vals T_laws_toItem a0) = F_laws_toItem N a0 := by kernel_rfl
def G_laws_toItem (a0 : DItem) : DItem :=
  a0
theorem FG_laws_toItem (N : Nat) (a0 : DItem) : F_laws_toItem N a0 = some (G_laws_toItem a0) := by
  first | rfl | (simp only [F_laws_toItem, G_laws_toItem, cond_some]; done) | (unfold F_laws_toItem G_laws_toItem; simp only [cond_some]; done)
def o_laws_toItem : List V → Bool × V := mkO T_laws_toItem R_laws_toItem (fun (x : DItem) => true) (fun (x : DItem) => G_laws_toItem x)
theorem laws_toItem_entry : Entry Try.prog 100 o_laws_toItem := Entry.of fun (x : DItem) _ =>
  Pf.of_run hm Try.func100 okFn_laws_toItem B_laws_toItem_ok B_laws_toItem_wf (O_laws_toItem_ok 0) rfl ((F_laws_toItem_run 0 x).trans (FG_laws_toItem 0 x))
/-! loop.example/g00526/laws.toItemS -/
abbrev T_laws_toItemS : List GT := [(.sl tItem)]
abbrev R_laws_toItemS : List GT := [(.sl tItem)]
def fin_laws_toItemS : Fr2 → Hp → Option (List DItem) := finF R_laws_toItemS [.t 2]
def O_laws_toItemS (N : Nat) : Orac := orc [(100, o_laws_toItem)] []
theorem O_laws_toItemS_ok (N : Nat) : OrcOk Try.prog (O_laws_toItemS N) := OrcOk.of ⟨laws_toItem_entry, trivial⟩ trivial
def c_laws_toItemS_1 : C2 :=
    .seq (.seq (.reg .reg [.op (some 8) (.mov (.t 4)),
      .op (some 9) (.mov (.t 0)),
      .op (some 10) (.len false (.t 9)),
      .op (some 11) (.bin .lss (.t 8) (.t 10))])
    (.cond (.t 11) (.skip)
    (.exit 0)))
    (.seq (.block 1 (.reg .reg [.op (some 14) (.mov (.t 3)),
      .op (some 15) (.mov (.t 4)),
      .op (some 16) (.mov (.t 0)),
      .op (some 17) (.mov (.t 4)),
      .op (some 18) (.iad 2 (.t 16) (.t 17)),
      .op (some 19) (.load 2 true (.t 18)),
      .op (some 20) (.call (.c (.f 100 [])) [.t 19]),
      .op (some 21) (.iad 2 (.t 14) (.t 15)),
      .op none (.stor 2 (.t 21) (.t 20))]))
    (.reg .reg [.op (some 12) (.mov (.t 4)),
      .op (some 13) (.bin .add (.t 12) (.c (.n .i64 1))),
      .op (some 4) (.mov (.t 13))]))
def c_laws_toItemS_2 : C2 :=
    .seq (.reg .reg [.op (some 22) (.mov (.t 3)),
      .op (some 2) (.mov (.t 22))])
    (.ret)
def τ_laws_toItemS : Nat → Option GT
  | 7 => some tItem
  | _ => none
def B_laws_toItemS : F2 := ⟨23, 1, [.t 2], τ_laws_toItemS,
    .seq (.reg .reg [.op (some 2) (.mov (.c (.l 0 0 0)))])
    (.seq (.reg .reg [.op (some 5) (.mov (.t 0)),
      .op (some 6) (.len false (.t 5)),
      .op (some 7) (.mks 24 [.n .i64 0, .s ⟨#[]⟩] (.t 6)),
      .op (some 3) (.mov (.t 7))])
    (.seq (.seq (.reg .reg [.op (some 4) (.mov (.c (.n .i64 0)))])
    (.block 0 (.loop [0, 3, 4] [] [3] c_laws_toItemS_1)))
    (c_laws_toItemS_2)))⟩
theorem B_laws_toItemS_ok : checkFn Try.prog Try.f65 B_laws_toItemS.toA = true := by kernel_rfl
theorem B_laws_toItemS_wf : B_laws_toItemS.body.wf = true := by kernel_rfl
theorem okFn_laws_toItemS : okFn Try.prog 65 = true := by kernel_rfl
def laws_toItemS_l1s (r0 : Int → List DItem → Option (List DItem)) (k0_0 : List DItem → Option (List DItem)) (N : Nat) (a0 : List DItem) (v4_1 : Int) (h1_1 : List DItem) : Option (List DItem) :=
  bif (ilt v4_1 ((a0.length) : Int)) then
    let x1 : DItem := (a0.getD (v4_1.toNat) dItem)
    let r1 : DItem := (G_laws_toItem x1)
    let h1 : List DItem := (h1_1.set (v4_1.toNat) r1)
    chk (inb v4_1 (a0.length)) <|
    chk (inb v4_1 (h1_1.length)) <|
    r0 (w64 (v4_1 + (1 : Int))) h1
  else
    k0_0 h1_1
theorem laws_toItemS_l1s_run (N : Nat) (C0 : Fr2 → Hp → Option (List DItem)) (K0 : Option Nat → Fr2 → Hp → Option (List DItem)) (a0 : List DItem) (v4_1 : Int) (h1_1 : List DItem) :
    rcode (O_laws_toItemS N) τ_laws_toItemS N fin_laws_toItemS c_laws_toItemS_1 [(0, .q tItem a0), (3, .w 1), (4, .n .i64 v4_1)] ⟨2, [(1, .ty tItem h1_1)]⟩ (roundK [0, 3, 4] [] [3] C0 K0) = laws_toItemS_l1s (fun v4_1 h1_1 => C0 [(0, .q tItem a0), (3, .w 1), (4, .n .i64 v4_1)] ⟨2, [(1, .ty tItem h1_1)]⟩) (fun eh1_1 => K0 (some 0) [(3, .w 1)] ⟨2, [(1, .ty tItem eh1_1)]⟩) N a0 v4_1 h1_1 := by kernel_rfl
def laws_toItemS_x1_0 (N : Nat) (eh1_1 : List DItem) : Option (List DItem) :=
  some eh1_1
theorem laws_toItemS_x1_0_run (N : Nat) (eh1_1 : List DItem) :
    (blockK 0 (seqK' (fun fr H K => rcode (O_laws_toItemS N) τ_laws_toItemS N fin_laws_toItemS c_laws_toItemS_2 fr H K) (finK R_laws_toItemS [.t 2]))) (some 0) [(3, .w 1)] ⟨2, [(1, .ty tItem eh1_1)]⟩ = laws_toItemS_x1_0 N eh1_1 := by kernel_rfl
def laws_toItemS_l1 (k0_0 : List DItem → Option (List DItem)) (N : Nat) (a0 : List DItem) : Nat → Int → List DItem → Option (List DItem)
  | 0, _, _ => none
  | n + 1, v4_1, h1_1 => laws_toItemS_l1s (laws_toItemS_l1 k0_0 N a0 n) k0_0 N a0 v4_1 h1_1
def laws_toItemS_h1 (N : Nat) (a0 : List DItem) (v4_1 : Int) (h1_1 : List DItem) : Option (List DItem) :=
  laws_toItemS_l1 (fun eh1_1 => laws_toItemS_x1_0 N eh1_1) N a0 N v4_1 h1_1
theorem laws_toItemS_l1_run (N : Nat)  (K : Option Nat → Fr2 → Hp → Option (List DItem)) (a0 : List DItem) : ∀ (n : Nat) (v4_1 : Int) (h1_1 : List DItem),
    rloop (fun fr H K => rcode (O_laws_toItemS N) τ_laws_toItemS N fin_laws_toItemS c_laws_toItemS_1 fr H K) [0, 3, 4] [] [3] K n [(0, .q tItem a0), (3, .w 1), (4, .n .i64 v4_1)] ⟨2, [(1, .ty tItem h1_1)]⟩ = laws_toItemS_l1 (fun eh1_1 => K (some 0) [(3, .w 1)] ⟨2, [(1, .ty tItem eh1_1)]⟩) N a0 n v4_1 h1_1 := by
  intro n
  induction n with
  | zero => intro v4_1 h1_1; kernel_rfl
  | succ n ih => intro v4_1 h1_1; exact (laws_toItemS_l1s_run N (rloop (fun fr H K => rcode (O_laws_toItemS N) τ_laws_toItemS N fin_laws_toItemS c_laws_toItemS_1 fr H K) [0, 3, 4] [] [3] K n) K a0 v4_1 h1_1).trans (congrArg (fun r => laws_toItemS_l1s r (fun eh1_1 => K (some 0) [(3, .w 1)] ⟨2, [(1, .ty tItem eh1_1)]⟩) N a0 v4_1 h1_1) (funext fun v4_1 => funext fun h1_1 => ih v4_1 h1_1))
theorem laws_toItemS_h1_run (N : Nat) (a0 : List DItem) (v4_1 : Int) (h1_1 : List DItem) : rloop (fun fr H K => rcode (O_laws_toItemS N) τ_laws_toItemS N fin_laws_toItemS c_laws_toItemS_1 fr H K) [0, 3, 4] [] [3] (blockK 0 (seqK' (fun fr H K => rcode (O_laws_toItemS N) τ_laws_toItemS N fin_laws_toItemS c_laws_toItemS_2 fr H K) (finK R_laws_toItemS [.t 2]))) N [(0, .q tItem a0), (3, .w 1), (4, .n .i64 v4_1)] ⟨2, [(1, .ty tItem h1_1)]⟩ = laws_toItemS_h1 N a0 v4_1 h1_1 :=
  ((laws_toItemS_l1_run N (blockK 0 (seqK' (fun fr H K => rcode (O_laws_toItemS N) τ_laws_toItemS N fin_laws_toItemS c_laws_toItemS_2 fr H K) (finK R_laws_toItemS [.t 2]))) a0 N v4_1 h1_1)).trans (congrArg (fun h => laws_toItemS_l1 h N a0 N v4_1 h1_1) (funext fun eh1_1 => laws_toItemS_x1_0_run N eh1_1))
def F_laws_toItemSR (N : Nat) (laws_toItemS_h1 : List DItem → Int → List DItem → Option (List DItem)) (a0 : List DItem) : Option (List DItem) :=
  chk (mkOk 24 ((a0.length) : Int)) <|
  laws_toItemS_h1 a0 (0 : Int) (List.replicate (((a0.length) : Int).toNat) dItem)
def F_laws_toItemS (N : Nat) (a0 : List DItem) : Option (List DItem) := F_laws_toItemSR N (laws_toItemS_h1 N) a0
theorem F_laws_toItemS_raw (N : Nat) (a0 : List DItem) :
    runF (O_laws_toItemS N) N B_laws_toItemS R_laws_toItemS (vals T_laws_toItemS a0) = F_laws_toItemSR N (fun a0 v4_1 h1_1 => rloop (fun fr H K => rcode (O_laws_toItemS N) τ_laws_toItemS N fin_laws_toItemS c_laws_toItemS_1 fr H K) [0, 3, 4] [] [3] (blockK 0 (seqK' (fun fr H K => rcode (O_laws_toItemS N) τ_laws_toItemS N fin_laws_toItemS c_laws_toItemS_2 fr H K) (finK R_laws_toItemS [.t 2]))) N [(0, .q tItem a0), (3, .w 1), (4, .n .i64 v4_1)] ⟨2, [(1, .ty tItem h1_1)]⟩) a0 := by kernel_rfl
theorem F_laws_toItemS_run (N : Nat) (a0 : List DItem) :
    runF (O_laws_toItemS N) N B_laws_toItemS R_laws_toItemS (vals T_laws_toItemS a0) = F_laws_toItemS N a0 :=
  (F_laws_toItemS_raw N a0).trans (congrArg (fun h => F_laws_toItemSR N h a0) (funext fun a0 => funext fun v4_1 => funext fun h1_1 => laws_toItemS_h1_run N a0 v4_1 h1_1))
def P_laws_toItemS (N : Nat) (a0 : List DItem) : Bool := lock (F_laws_toItemS N a0).isSome
def G_laws_toItemS (N : Nat) (a0 : List DItem) : (List DItem) := lock ((F_laws_toItemS N a0).getD [])
theorem FG_laws_toItemS {N : Nat} (a0 : List DItem) (h : P_laws_toItemS N a0 = true) : F_laws_toItemS N a0 = some (G_laws_toItemS N a0) := by unfold P_laws_toItemS at h; unfold G_laws_toItemS; rw [lock_eq] at h ⊢; exact some_of_isSome h
theorem PG_laws_toItemS {N : Nat} {a0 : List DItem} {v : (List DItem)} (h : F_laws_toItemS N a0 = some v) : P_laws_toItemS N a0 = true ∧ G_laws_toItemS N a0 = v := by unfold P_laws_toItemS G_laws_toItemS; rw [h, lock_eq, lock_eq]; exact ⟨rfl, rfl⟩
def o_laws_toItemS (N : Nat) : List V → Bool × V := mkO T_laws_toItemS R_laws_toItemS (fun (x : List DItem) => P_laws_toItemS N x) (fun (x : List DItem) => G_laws_toItemS N x)
theorem laws_toItemS_entry (N : Nat) : Entry Try.prog 65 (o_laws_toItemS N) := Entry.of fun (x : List DItem) h =>
  Pf.of_run hm Try.func65 okFn_laws_toItemS B_laws_toItemS_ok B_laws_toItemS_wf (O_laws_toItemS_ok N) rfl ((F_laws_toItemS_run N x).trans (FG_laws_toItemS x h))
/-! loop.example/g00526/laws.toInt64S -/
abbrev T_laws_toInt64S : List GT := [(.sl (.i .i64))]
abbrev R_laws_toInt64S : List GT := [(.sl (.i .i64))]
def fin_laws_toInt64S : Fr2 → Hp → Option (List Int) := finF R_laws_toInt64S [.t 2]
def O_laws_toInt64S (N : Nat) : Orac := orc [] []
theorem O_laws_toInt64S_ok (N : Nat) : OrcOk Try.prog (O_laws_toInt64S N) := OrcOk.of trivial trivial
def c_laws_toInt64S_1 : C2 :=
    .seq (.seq (.reg .reg [.op (some 8) (.mov (.t 4)),
      .op (some 9) (.mov (.t 0)),
      .op (some 10) (.len false (.t 9)),
      .op (some 11) (.bin .lss (.t 8) (.t 10))])
    (.cond (.t 11) (.skip)
    (.exit 0)))
    (.seq (.block 1 (.reg .reg [.op (some 14) (.mov (.t 3)),
      .op (some 15) (.mov (.t 4)),
      .op (some 16) (.mov (.t 0)),
      .op (some 17) (.mov (.t 4)),
      .op (some 18) (.iad 1 (.t 16) (.t 17)),
      .op (some 19) (.load 1 false (.t 18)),
      .op (some 20) (.iad 1 (.t 14) (.t 15)),
      .op none (.stor 1 (.t 20) (.t 19))]))
    (.reg .reg [.op (some 12) (.mov (.t 4)),
      .op (some 13) (.bin .add (.t 12) (.c (.n .i64 1))),
      .op (some 4) (.mov (.t 13))]))
def c_laws_toInt64S_2 : C2 :=
    .seq (.reg .reg [.op (some 21) (.mov (.t 3)),
      .op (some 2) (.mov (.t 21))])
    (.ret)
def τ_laws_toInt64S : Nat → Option GT
  | 7 => some (.i .i64)
  | _ => none
def B_laws_toInt64S : F2 := ⟨22, 1, [.t 2], τ_laws_toInt64S,
    .seq (.reg .reg [.op (some 2) (.mov (.c (.l 0 0 0)))])
    (.seq (.reg .reg [.op (some 5) (.mov (.t 0)),
      .op (some 6) (.len false (.t 5)),
      .op (some 7) (.mks 8 [.n .i64 0] (.t 6)),
      .op (some 3) (.mov (.t 7))])
    (.seq (.seq (.reg .reg [.op (some 4) (.mov (.c (.n .i64 0)))])
    (.block 0 (.loop [0, 3, 4] [] [3] c_laws_toInt64S_1)))
    (c_laws_toInt64S_2)))⟩
theorem B_laws_toInt64S_ok : checkFn Try.prog Try.f66 B_laws_toInt64S.toA = true := by kernel_rfl
theorem B_laws_toInt64S_wf : B_laws_toInt64S.body.wf = true := by kernel_rfl
theorem okFn_laws_toInt64S : okFn Try.prog 66 = true := by kernel_rfl
def laws_toInt64S_l1s (r0 : Int → List Int → Option (List Int)) (k0_0 : List Int → Option (List Int)) (N : Nat) (a0 : List Int) (v4_1 : Int) (h1_1 : List Int) : Option (List Int) :=
  bif (ilt v4_1 ((a0.length) : Int)) then
    let x1 : Int := (a0.getD (v4_1.toNat) (0 : Int))
    let h1 : List Int := (h1_1.set (v4_1.toNat) x1)
    chk (inb v4_1 (a0.length)) <|
    chk (inb v4_1 (h1_1.length)) <|
    r0 (w64 (v4_1 + (1 : Int))) h1
  else
    k0_0 h1_1
theorem laws_toInt64S_l1s_run (N : Nat) (C0 : Fr2 → Hp → Option (List Int)) (K0 : Option Nat → Fr2 → Hp → Option (List Int)) (a0 : List Int) (v4_1 : Int) (h1_1 : List Int) :
    rcode (O_laws_toInt64S N) τ_laws_toInt64S N fin_laws_toInt64S c_laws_toInt64S_1 [(0, .q (.i .i64) a0), (3, .w 1), (4, .n .i64 v4_1)] ⟨2, [(1, .ty (.i .i64) h1_1)]⟩ (roundK [0, 3, 4] [] [3] C0 K0) = laws_toInt64S_l1s (fun v4_1 h1_1 => C0 [(0, .q (.i .i64) a0), (3, .w 1), (4, .n .i64 v4_1)] ⟨2, [(1, .ty (.i .i64) h1_1)]⟩) (fun eh1_1 => K0 (some 0) [(3, .w 1)] ⟨2, [(1, .ty (.i .i64) eh1_1)]⟩) N a0 v4_1 h1_1 := by kernel_rfl
def laws_toInt64S_x1_0 (N : Nat) (eh1_1 : List Int) : Option (List Int) :=
  some eh1_1
theorem laws_toInt64S_x1_0_run (N : Nat) (eh1_1 : List Int) :
    (blockK 0 (seqK' (fun fr H K => rcode (O_laws_toInt64S N) τ_laws_toInt64S N fin_laws_toInt64S c_laws_toInt64S_2 fr H K) (finK R_laws_toInt64S [.t 2]))) (some 0) [(3, .w 1)] ⟨2, [(1, .ty (.i .i64) eh1_1)]⟩ = laws_toInt64S_x1_0 N eh1_1 := by kernel_rfl
def laws_toInt64S_l1 (k0_0 : List Int → Option (List Int)) (N : Nat) (a0 : List Int) : Nat → Int → List Int → Option (List Int)
  | 0, _, _ => none
  | n + 1, v4_1, h1_1 => laws_toInt64S_l1s (laws_toInt64S_l1 k0_0 N a0 n) k0_0 N a0 v4_1 h1_1
def laws_toInt64S_h1 (N : Nat) (a0 : List Int) (v4_1 : Int) (h1_1 : List Int) : Option (List Int) :=
  laws_toInt64S_l1 (fun eh1_1 => laws_toInt64S_x1_0 N eh1_1) N a0 N v4_1 h1_1
theorem laws_toInt64S_l1_run (N : Nat)  (K : Option Nat → Fr2 → Hp → Option (List Int)) (a0 : List Int) : ∀ (n : Nat) (v4_1 : Int) (h1_1 : List Int),
    rloop (fun fr H K => rcode (O_laws_toInt64S N) τ_laws_toInt64S N fin_laws_toInt64S c_laws_toInt64S_1 fr H K) [0, 3, 4] [] [3] K n [(0, .q (.i .i64) a0), (3, .w 1), (4, .n .i64 v4_1)] ⟨2, [(1, .ty (.i .i64) h1_1)]⟩ = laws_toInt64S_l1 (fun eh1_1 => K (some 0) [(3, .w 1)] ⟨2, [(1, .ty (.i .i64) eh1_1)]⟩) N a0 n v4_1 h1_1 := by
  intro n
  induction n with
  | zero => intro v4_1 h1_1; kernel_rfl
  | succ n ih => intro v4_1 h1_1; exact (laws_toInt64S_l1s_run N (rloop (fun fr H K => rcode (O_laws_toInt64S N) τ_laws_toInt64S N fin_laws_toInt64S c_laws_toInt64S_1 fr H K) [0, 3, 4] [] [3] K n) K a0 v4_1 h1_1).trans (congrArg (fun r => laws_toInt64S_l1s r (fun eh1_1 => K (some 0) [(3, .w 1)] ⟨2, [(1, .ty (.i .i64) eh1_1)]⟩) N a0 v4_1 h1_1) (funext fun v4_1 => funext fun h1_1 => ih v4_1 h1_1))
theorem laws_toInt64S_h1_run (N : Nat) (a0 : List Int) (v4_1 : Int) (h1_1 : List Int) : rloop (fun fr H K => rcode (O_laws_toInt64S N) τ_laws_toInt64S N fin_laws_toInt64S c_laws_toInt64S_1 fr H K) [0, 3, 4] [] [3] (blockK 0 (seqK' (fun fr H K => rcode (O_laws_toInt64S N) τ_laws_toInt64S N fin_laws_toInt64S c_laws_toInt64S_2 fr H K) (finK R_laws_toInt64S [.t 2]))) N [(0, .q (.i .i64) a0), (3, .w 1), (4, .n .i64 v4_1)] ⟨2, [(1, .ty (.i .i64) h1_1)]⟩ = laws_toInt64S_h1 N a0 v4_1 h1_1 :=
  ((laws_toInt64S_l1_run N (blockK 0 (seqK' (fun fr H K => rcode (O_laws_toInt64S N) τ_laws_toInt64S N fin_laws_toInt64S c_laws_toInt64S_2 fr H K) (finK R_laws_toInt64S [.t 2]))) a0 N v4_1 h1_1)).trans (congrArg (fun h => laws_toInt64S_l1 h N a0 N v4_1 h1_1) (funext fun eh1_1 => laws_toInt64S_x1_0_run N eh1_1))
def F_laws_toInt64SR (N : Nat) (laws_toInt64S_h1 : List Int → Int → List Int → Option (List Int)) (a0 : List Int) : Option (List Int) :=
  chk (mkOk 8 ((a0.length) : Int)) <|
  laws_toInt64S_h1 a0 (0 : Int) (List.replicate (((a0.length) : Int).toNat) (0 : Int))
def F_laws_toInt64S (N : Nat) (a0 : List Int) : Option (List Int) := F_laws_toInt64SR N (laws_toInt64S_h1 N) a0
theorem F_laws_toInt64S_raw (N : Nat) (a0 : List Int) :
    runF (O_laws_toInt64S N) N B_laws_toInt64S R_laws_toInt64S (vals T_laws_toInt64S a0) = F_laws_toInt64SR N (fun a0 v4_1 h1_1 => rloop (fun fr H K => rcode (O_laws_toInt64S N) τ_laws_toInt64S N fin_laws_toInt64S c_laws_toInt64S_1 fr H K) [0, 3, 4] [] [3] (blockK 0 (seqK' (fun fr H K => rcode (O_laws_toInt64S N) τ_laws_toInt64S N fin_laws_toInt64S c_laws_toInt64S_2 fr H K) (finK R_laws_toInt64S [.t 2]))) N [(0, .q (.i .i64) a0), (3, .w 1), (4, .n .i64 v4_1)] ⟨2, [(1, .ty (.i .i64) h1_1)]⟩) a0 := by kernel_rfl
theorem F_laws_toInt64S_run (N : Nat) (a0 : List Int) :
    runF (O_laws_toInt64S N) N B_laws_toInt64S R_laws_toInt64S (vals T_laws_toInt64S a0) = F_laws_toInt64S N a0 :=
  (F_laws_toInt64S_raw N a0).trans (congrArg (fun h => F_laws_toInt64SR N h a0) (funext fun a0 => funext fun v4_1 => funext fun h1_1 => laws_toInt64S_h1_run N a0 v4_1 h1_1))
def P_laws_toInt64S (N : Nat) (a0 : List Int) : Bool := lock (F_laws_toInt64S N a0).isSome
def G_laws_toInt64S (N : Nat) (a0 : List Int) : (List Int) := lock ((F_laws_toInt64S N a0).getD [])
theorem FG_laws_toInt64S {N : Nat} (a0 : List Int) (h : P_laws_toInt64S N a0 = true) : F_laws_toInt64S N a0 = some (G_laws_toInt64S N a0) := by unfold P_laws_toInt64S at h; unfold G_laws_toInt64S; rw [lock_eq] at h ⊢; exact some_of_isSome h
theorem PG_laws_toInt64S {N : Nat} {a0 : List Int} {v : (List Int)} (h : F_laws_toInt64S N a0 = some v) : P_laws_toInt64S N a0 = true ∧ G_laws_toInt64S N a0 = v := by unfold P_laws_toInt64S G_laws_toInt64S; rw [h, lock_eq, lock_eq]; exact ⟨rfl, rfl⟩
def o_laws_toInt64S (N : Nat) : List V → Bool × V := mkO T_laws_toInt64S R_laws_toInt64S (fun (x : List Int) => P_laws_toInt64S N x) (fun (x : List Int) => G_laws_toInt64S N x)
theorem laws_toInt64S_entry (N : Nat) : Entry Try.prog 66 (o_laws_toInt64S N) := Entry.of fun (x : List Int) h =>
  Pf.of_run hm Try.func66 okFn_laws_toInt64S B_laws_toInt64S_ok B_laws_toInt64S_wf (O_laws_toInt64S_ok N) rfl ((F_laws_toInt64S_run N x).trans (FG_laws_toInt64S x h))
/-! loop.example/g00526/laws.toKeeper -/
abbrev T_laws_toKeeper : List GT := [tKeeper]
abbrev R_laws_toKeeper : List GT := [tKeeper]
def fin_laws_toKeeper : Fr2 → Hp → Option DKeeper := finF R_laws_toKeeper [.cell 2 10 true]
def O_laws_toKeeper (N : Nat) : Orac := orc [(65, o_laws_toItemS N), (66, o_laws_toInt64S N)] []
theorem O_laws_toKeeper_ok (N : Nat) : OrcOk Try.prog (O_laws_toKeeper N) := OrcOk.of ⟨laws_toItemS_entry N, laws_toInt64S_entry N, trivial⟩ trivial
def τ_laws_toKeeper : Nat → Option GT := fun _ => none
def B_laws_toKeeper : F2 := ⟨38, 1, [.cell 2 10 true], τ_laws_toKeeper,
    .seq (.reg .reg [.op (some 1) (.box (.t 0)),
      .op (some 2) (.aloc [.n .i64 0, .n .i64 0, .n .i64 0, .l 0 0 0, .n .i64 0, .n .i64 0, .n .i64 0, .l 0 0 0, .l 0 0 0, .b false])])
    (.seq (.reg .reg [.op (some 3) (.aloc [.n .i64 0, .n .i64 0, .n .i64 0, .l 0 0 0, .n .i64 0, .n .i64 0, .n .i64 0, .l 0 0 0, .l 0 0 0, .b false])])
    (.seq (.reg .reg [.op (some 4) (.fad 0 (.t 1)),
      .op (some 5) (.load 1 false (.t 4)),
      .op (some 6) (.fad 0 (.t 3)),
      .op none (.stor 1 (.t 6) (.t 5))])
    (.seq (.reg .reg [.op (some 7) (.fad 1 (.t 1)),
      .op (some 8) (.load 1 false (.t 7)),
      .op (some 9) (.fad 1 (.t 3)),
      .op none (.stor 1 (.t 9) (.t 8))])
    (.seq (.reg .reg [.op (some 10) (.fad 2 (.t 1)),
      .op (some 11) (.load 1 false (.t 10)),
      .op (some 12) (.fad 2 (.t 3)),
      .op none (.stor 1 (.t 12) (.t 11))])
    (.seq (.reg .reg [.op (some 13) (.fad 3 (.t 1)),
      .op (some 14) (.load 1 false (.t 13)),
      .op (some 15) (.call (.c (.f 65 [])) [.t 14]),
      .op (some 16) (.fad 3 (.t 3)),
      .op none (.stor 1 (.t 16) (.t 15))])
    (.seq (.reg .reg [.op (some 17) (.fad 4 (.t 1)),
      .op (some 18) (.load 1 false (.t 17)),
      .op (some 19) (.fad 4 (.t 3)),
      .op none (.stor 1 (.t 19) (.t 18))])
    (.seq (.reg .reg [.op (some 20) (.fad 5 (.t 1)),
      .op (some 21) (.load 1 false (.t 20)),
      .op (some 22) (.fad 5 (.t 3)),
      .op none (.stor 1 (.t 22) (.t 21))])
    (.seq (.reg .reg [.op (some 23) (.fad 6 (.t 1)),
      .op (some 24) (.load 1 false (.t 23)),
      .op (some 25) (.fad 6 (.t 3)),
      .op none (.stor 1 (.t 25) (.t 24))])
    (.seq (.reg .reg [.op (some 26) (.fad 7 (.t 1)),
      .op (some 27) (.load 1 false (.t 26)),
      .op (some 28) (.call (.c (.f 66 [])) [.t 27]),
      .op (some 29) (.fad 7 (.t 3)),
      .op none (.stor 1 (.t 29) (.t 28))])
    (.seq (.reg .reg [.op (some 30) (.fad 8 (.t 1)),
      .op (some 31) (.load 1 false (.t 30)),
      .op (some 32) (.call (.c (.f 66 [])) [.t 31]),
      .op (some 33) (.fad 8 (.t 3)),
      .op none (.stor 1 (.t 33) (.t 32))])
    (.seq (.reg .reg [.op (some 34) (.fad 9 (.t 1)),
      .op (some 35) (.load 1 false (.t 34)),
      .op (some 36) (.fad 9 (.t 3)),
      .op none (.stor 1 (.t 36) (.t 35))])
    (.seq (.reg .reg [.op (some 37) (.load 10 true (.t 3)),
      .op none (.stor 10 (.t 2) (.t 37))])
    (.ret)))))))))))))⟩
theorem B_laws_toKeeper_ok : checkFn Try.prog Try.f16 B_laws_toKeeper.toA = true := by kernel_rfl
theorem B_laws_toKeeper_wf : B_laws_toKeeper.body.wf = true := by kernel_rfl
theorem okFn_laws_toKeeper : okFn Try.prog 16 = true := by kernel_rfl
def F_laws_toKeeper (N : Nat) (a0 : DKeeper) : Option DKeeper :=
  let r1 : List DItem := (G_laws_toItemS N a0.2.2.2.1)
  chk (P_laws_toItemS N a0.2.2.2.1) <|
  let r2 : List Int := (G_laws_toInt64S N a0.2.2.2.2.2.2.2.1)
  chk (P_laws_toInt64S N a0.2.2.2.2.2.2.2.1) <|
  let r3 : List Int := (G_laws_toInt64S N a0.2.2.2.2.2.2.2.2.1)
  chk (P_laws_toInt64S N a0.2.2.2.2.2.2.2.2.1) <|
  some (a0.1, a0.2.1, a0.2.2.1, r1, a0.2.2.2.2.1, a0.2.2.2.2.2.1, a0.2.2.2.2.2.2.1, r2, r3, a0.2.2.2.2.2.2.2.2.2)
theorem F_laws_toKeeper_run (N : Nat) (a0 : DKeeper) :
    runF (O_laws_toKeeper N) N B_laws_toKeeper R_laws_toKeeper (vals T_laws_toKeeper a0) = F_laws_toKeeper N a0 := by kernel_rfl
def P_laws_toKeeper (N : Nat) (a0 : DKeeper) : Bool := lock (F_laws_toKeeper N a0).isSome
def G_laws_toKeeper (N : Nat) (a0 : DKeeper) : DKeeper := lock ((F_laws_toKeeper N a0).getD dKeeper)
theorem FG_laws_toKeeper {N : Nat} (a0 : DKeeper) (h : P_laws_toKeeper N a0 = true) : F_laws_toKeeper N a0 = some (G_laws_toKeeper N a0) := by unfold P_laws_toKeeper at h; unfold G_laws_toKeeper; rw [lock_eq] at h ⊢; exact some_of_isSome h
theorem PG_laws_toKeeper {N : Nat} {a0 : DKeeper} {v : DKeeper} (h : F_laws_toKeeper N a0 = some v) : P_laws_toKeeper N a0 = true ∧ G_laws_toKeeper N a0 = v := by unfold P_laws_toKeeper G_laws_toKeeper; rw [h, lock_eq, lock_eq]; exact ⟨rfl, rfl⟩
def o_laws_toKeeper (N : Nat) : List V → Bool × V := mkO T_laws_toKeeper R_laws_toKeeper (fun (x : DKeeper) => P_laws_toKeeper N x) (fun (x : DKeeper) => G_laws_toKeeper N x)
theorem laws_toKeeper_entry (N : Nat) : Entry Try.prog 16 (o_laws_toKeeper N) := Entry.of fun (x : DKeeper) h =>
  Pf.of_run hm Try.func16 okFn_laws_toKeeper B_laws_toKeeper_ok B_laws_toKeeper_wf (O_laws_toKeeper_ok N) rfl ((F_laws_toKeeper_run N x).trans (FG_laws_toKeeper x h))
/-! loop.example/g00526/laws.toKeeperS -/
abbrev T_laws_toKeeperS : List GT := [(.sl tKeeper)]
abbrev R_laws_toKeeperS : List GT := [(.sl tKeeper)]
def fin_laws_toKeeperS : Fr2 → Hp → Option (List DKeeper) := finF R_laws_toKeeperS [.t 2]
def O_laws_toKeeperS (N : Nat) : Orac := orc [(16, o_laws_toKeeper N)] []
theorem O_laws_toKeeperS_ok (N : Nat) : OrcOk Try.prog (O_laws_toKeeperS N) := OrcOk.of ⟨laws_toKeeper_entry N, trivial⟩ trivial
def c_laws_toKeeperS_1 : C2 :=
    .seq (.seq (.reg .reg [.op (some 8) (.mov (.t 4)),
      .op (some 9) (.mov (.t 0)),
      .op (some 10) (.len false (.t 9)),
      .op (some 11) (.bin .lss (.t 8) (.t 10))])
    (.cond (.t 11) (.skip)
    (.exit 0)))
    (.seq (.block 1 (.reg .reg [.op (some 14) (.mov (.t 3)),
      .op (some 15) (.mov (.t 4)),
      .op (some 16) (.mov (.t 0)),
      .op (some 17) (.mov (.t 4)),
      .op (some 18) (.iad 10 (.t 16) (.t 17)),
      .op (some 19) (.load 10 true (.t 18)),
      .op (some 20) (.call (.c (.f 16 [])) [.t 19]),
      .op (some 21) (.iad 10 (.t 14) (.t 15)),
      .op none (.stor 10 (.t 21) (.t 20))]))
    (.reg .reg [.op (some 12) (.mov (.t 4)),
      .op (some 13) (.bin .add (.t 12) (.c (.n .i64 1))),
      .op (some 4) (.mov (.t 13))]))
def c_laws_toKeeperS_2 : C2 :=
    .seq (.reg .reg [.op (some 22) (.mov (.t 3)),
      .op (some 2) (.mov (.t 22))])
    (.ret)
def τ_laws_toKeeperS : Nat → Option GT
  | 7 => some tKeeper
  | _ => none
def B_laws_toKeeperS : F2 := ⟨23, 1, [.t 2], τ_laws_toKeeperS,
    .seq (.reg .reg [.op (some 2) (.mov (.c (.l 0 0 0)))])
    (.seq (.reg .reg [.op (some 5) (.mov (.t 0)),
      .op (some 6) (.len false (.t 5)),
      .op (some 7) (.mks 128 [.n .i64 0, .n .i64 0, .n .i64 0, .l 0 0 0, .n .i64 0, .n .i64 0, .n .i64 0, .l 0 0 0, .l 0 0 0, .b false] (.t 6)),
      .op (some 3) (.mov (.t 7))])
    (.seq (.seq (.reg .reg [.op (some 4) (.mov (.c (.n .i64 0)))])
    (.block 0 (.loop [0, 3, 4] [] [3] c_laws_toKeeperS_1)))
    (c_laws_toKeeperS_2)))⟩
theorem B_laws_toKeeperS_ok : checkFn Try.prog Try.f88 B_laws_toKeeperS.toA = true := by kernel_rfl
theorem B_laws_toKeeperS_wf : B_laws_toKeeperS.body.wf = true := by kernel_rfl
theorem okFn_laws_toKeeperS : okFn Try.prog 88 = true := by kernel_rfl
def laws_toKeeperS_l1s (r0 : Int → List DKeeper → Option (List DKeeper)) (k0_0 : List DKeeper → Option (List DKeeper)) (N : Nat) (a0 : List DKeeper) (v4_1 : Int) (h1_1 : List DKeeper) : Option (List DKeeper) :=
  bif (ilt v4_1 ((a0.length) : Int)) then
    let x1 : DKeeper := (a0.getD (v4_1.toNat) dKeeper)
    let r1 : DKeeper := (G_laws_toKeeper N x1)
    let h1 : List DKeeper := (h1_1.set (v4_1.toNat) r1)
    chk (inb v4_1 (a0.length)) <|
    chk (P_laws_toKeeper N x1) <|
    chk (inb v4_1 (h1_1.length)) <|
    r0 (w64 (v4_1 + (1 : Int))) h1
  else
    k0_0 h1_1
theorem laws_toKeeperS_l1s_run (N : Nat) (C0 : Fr2 → Hp → Option (List DKeeper)) (K0 : Option Nat → Fr2 → Hp → Option (List DKeeper)) (a0 : List DKeeper) (v4_1 : Int) (h1_1 : List DKeeper) :
    rcode (O_laws_toKeeperS N) τ_laws_toKeeperS N fin_laws_toKeeperS c_laws_toKeeperS_1 [(0, .q tKeeper a0), (3, .w 1), (4, .n .i64 v4_1)] ⟨2, [(1, .ty tKeeper h1_1)]⟩ (roundK [0, 3, 4] [] [3] C0 K0) = laws_toKeeperS_l1s (fun v4_1 h1_1 => C0 [(0, .q tKeeper a0), (3, .w 1), (4, .n .i64 v4_1)] ⟨2, [(1, .ty tKeeper h1_1)]⟩) (fun eh1_1 => K0 (some 0) [(3, .w 1)] ⟨2, [(1, .ty tKeeper eh1_1)]⟩) N a0 v4_1 h1_1 := by kernel_rfl
def laws_toKeeperS_x1_0 (N : Nat) (eh1_1 : List DKeeper) : Option (List DKeeper) :=
  some eh1_1
theorem laws_toKeeperS_x1_0_run (N : Nat) (eh1_1 : List DKeeper) :
    (blockK 0 (seqK' (fun fr H K => rcode (O_laws_toKeeperS N) τ_laws_toKeeperS N fin_laws_toKeeperS c_laws_toKeeperS_2 fr H K) (finK R_laws_toKeeperS [.t 2]))) (some 0) [(3, .w 1)] ⟨2, [(1, .ty tKeeper eh1_1)]⟩ = laws_toKeeperS_x1_0 N eh1_1 := by kernel_rfl
def laws_toKeeperS_l1 (k0_0 : List DKeeper → Option (List DKeeper)) (N : Nat) (a0 : List DKeeper) : Nat → Int → List DKeeper → Option (List DKeeper)
  | 0, _, _ => none
  | n + 1, v4_1, h1_1 => laws_toKeeperS_l1s (laws_toKeeperS_l1 k0_0 N a0 n) k0_0 N a0 v4_1 h1_1
def laws_toKeeperS_h1 (N : Nat) (a0 : List DKeeper) (v4_1 : Int) (h1_1 : List DKeeper) : Option (List DKeeper) :=
  laws_toKeeperS_l1 (fun eh1_1 => laws_toKeeperS_x1_0 N eh1_1) N a0 N v4_1 h1_1
theorem laws_toKeeperS_l1_run (N : Nat)  (K : Option Nat → Fr2 → Hp → Option (List DKeeper)) (a0 : List DKeeper) : ∀ (n : Nat) (v4_1 : Int) (h1_1 : List DKeeper),
    rloop (fun fr H K => rcode (O_laws_toKeeperS N) τ_laws_toKeeperS N fin_laws_toKeeperS c_laws_toKeeperS_1 fr H K) [0, 3, 4] [] [3] K n [(0, .q tKeeper a0), (3, .w 1), (4, .n .i64 v4_1)] ⟨2, [(1, .ty tKeeper h1_1)]⟩ = laws_toKeeperS_l1 (fun eh1_1 => K (some 0) [(3, .w 1)] ⟨2, [(1, .ty tKeeper eh1_1)]⟩) N a0 n v4_1 h1_1 := by
  intro n
  induction n with
  | zero => intro v4_1 h1_1; kernel_rfl
  | succ n ih => intro v4_1 h1_1; exact (laws_toKeeperS_l1s_run N (rloop (fun fr H K => rcode (O_laws_toKeeperS N) τ_laws_toKeeperS N fin_laws_toKeeperS c_laws_toKeeperS_1 fr H K) [0, 3, 4] [] [3] K n) K a0 v4_1 h1_1).trans (congrArg (fun r => laws_toKeeperS_l1s r (fun eh1_1 => K (some 0) [(3, .w 1)] ⟨2, [(1, .ty tKeeper eh1_1)]⟩) N a0 v4_1 h1_1) (funext fun v4_1 => funext fun h1_1 => ih v4_1 h1_1))
theorem laws_toKeeperS_h1_run (N : Nat) (a0 : List DKeeper) (v4_1 : Int) (h1_1 : List DKeeper) : rloop (fun fr H K => rcode (O_laws_toKeeperS N) τ_laws_toKeeperS N fin_laws_toKeeperS c_laws_toKeeperS_1 fr H K) [0, 3, 4] [] [3] (blockK 0 (seqK' (fun fr H K => rcode (O_laws_toKeeperS N) τ_laws_toKeeperS N fin_laws_toKeeperS c_laws_toKeeperS_2 fr H K) (finK R_laws_toKeeperS [.t 2]))) N [(0, .q tKeeper a0), (3, .w 1), (4, .n .i64 v4_1)] ⟨2, [(1, .ty tKeeper h1_1)]⟩ = laws_toKeeperS_h1 N a0 v4_1 h1_1 :=
  ((laws_toKeeperS_l1_run N (blockK 0 (seqK' (fun fr H K => rcode (O_laws_toKeeperS N) τ_laws_toKeeperS N fin_laws_toKeeperS c_laws_toKeeperS_2 fr H K) (finK R_laws_toKeeperS [.t 2]))) a0 N v4_1 h1_1)).trans (congrArg (fun h => laws_toKeeperS_l1 h N a0 N v4_1 h1_1) (funext fun eh1_1 => laws_toKeeperS_x1_0_run N eh1_1))
def F_laws_toKeeperSR (N : Nat) (laws_toKeeperS_h1 : List DKeeper → Int → List DKeeper → Option (List DKeeper)) (a0 : List DKeeper) : Option (List DKeeper) :=
  chk (mkOk 128 ((a0.length) : Int)) <|
  laws_toKeeperS_h1 a0 (0 : Int) (List.replicate (((a0.length) : Int).toNat) dKeeper)
def F_laws_toKeeperS (N : Nat) (a0 : List DKeeper) : Option (List DKeeper) := F_laws_toKeeperSR N (laws_toKeeperS_h1 N) a0
theorem F_laws_toKeeperS_raw (N : Nat) (a0 : List DKeeper) :
    runF (O_laws_toKeeperS N) N B_laws_toKeeperS R_laws_toKeeperS (vals T_laws_toKeeperS a0) = F_laws_toKeeperSR N (fun a0 v4_1 h1_1 => rloop (fun fr H K => rcode (O_laws_toKeeperS N) τ_laws_toKeeperS N fin_laws_toKeeperS c_laws_toKeeperS_1 fr H K) [0, 3, 4] [] [3] (blockK 0 (seqK' (fun fr H K => rcode (O_laws_toKeeperS N) τ_laws_toKeeperS N fin_laws_toKeeperS c_laws_toKeeperS_2 fr H K) (finK R_laws_toKeeperS [.t 2]))) N [(0, .q tKeeper a0), (3, .w 1), (4, .n .i64 v4_1)] ⟨2, [(1, .ty tKeeper h1_1)]⟩) a0 := by kernel_rfl
theorem F_laws_toKeeperS_run (N : Nat) (a0 : List DKeeper) :
    runF (O_laws_toKeeperS N) N B_laws_toKeeperS R_laws_toKeeperS (vals T_laws_toKeeperS a0) = F_laws_toKeeperS N a0 :=
  (F_laws_toKeeperS_raw N a0).trans (congrArg (fun h => F_laws_toKeeperSR N h a0) (funext fun a0 => funext fun v4_1 => funext fun h1_1 => laws_toKeeperS_h1_run N a0 v4_1 h1_1))
def P_laws_toKeeperS (N : Nat) (a0 : List DKeeper) : Bool := lock (F_laws_toKeeperS N a0).isSome
def G_laws_toKeeperS (N : Nat) (a0 : List DKeeper) : (List DKeeper) := lock ((F_laws_toKeeperS N a0).getD [])
theorem FG_laws_toKeeperS {N : Nat} (a0 : List DKeeper) (h : P_laws_toKeeperS N a0 = true) : F_laws_toKeeperS N a0 = some (G_laws_toKeeperS N a0) := by unfold P_laws_toKeeperS at h; unfold G_laws_toKeeperS; rw [lock_eq] at h ⊢; exact some_of_isSome h
theorem PG_laws_toKeeperS {N : Nat} {a0 : List DKeeper} {v : (List DKeeper)} (h : F_laws_toKeeperS N a0 = some v) : P_laws_toKeeperS N a0 = true ∧ G_laws_toKeeperS N a0 = v := by unfold P_laws_toKeeperS G_laws_toKeeperS; rw [h, lock_eq, lock_eq]; exact ⟨rfl, rfl⟩
def o_laws_toKeeperS (N : Nat) : List V → Bool × V := mkO T_laws_toKeeperS R_laws_toKeeperS (fun (x : List DKeeper) => P_laws_toKeeperS N x) (fun (x : List DKeeper) => G_laws_toKeeperS N x)
theorem laws_toKeeperS_entry (N : Nat) : Entry Try.prog 88 (o_laws_toKeeperS N) := Entry.of fun (x : List DKeeper) h =>
  Pf.of_run hm Try.func88 okFn_laws_toKeeperS B_laws_toKeeperS_ok B_laws_toKeeperS_wf (O_laws_toKeeperS_ok N) rfl ((F_laws_toKeeperS_run N x).trans (FG_laws_toKeeperS x h))
/-! loop.example/g00526/laws.toLetter -/
abbrev T_laws_toLetter : List GT := [tLetter]
abbrev R_laws_toLetter : List GT := [tLetter]
def fin_laws_toLetter : Fr2 → Hp → Option DLetter := finF R_laws_toLetter [.cell 2 9 true]
def O_laws_toLetter (N : Nat) : Orac := orc [(65, o_laws_toItemS N)] []
theorem O_laws_toLetter_ok (N : Nat) : OrcOk Try.prog (O_laws_toLetter N) := OrcOk.of ⟨laws_toItemS_entry N, trivial⟩ trivial
def τ_laws_toLetter : Nat → Option GT := fun _ => none
def B_laws_toLetter : F2 := ⟨33, 1, [.cell 2 9 true], τ_laws_toLetter,
    .seq (.reg .reg [.op (some 1) (.box (.t 0)),
      .op (some 2) (.aloc [.n .i64 0, .n .i64 0, .n .i64 0, .n .i64 0, .n .i64 0, .n .i64 0, .l 0 0 0, .n .i64 0, .b false])])
    (.seq (.reg .reg [.op (some 3) (.aloc [.n .i64 0, .n .i64 0, .n .i64 0, .n .i64 0, .n .i64 0, .n .i64 0, .l 0 0 0, .n .i64 0, .b false])])
    (.seq (.reg .reg [.op (some 4) (.fad 0 (.t 1)),
      .op (some 5) (.load 1 false (.t 4)),
      .op (some 6) (.fad 0 (.t 3)),
      .op none (.stor 1 (.t 6) (.t 5))])
    (.seq (.reg .reg [.op (some 7) (.fad 1 (.t 1)),
      .op (some 8) (.load 1 false (.t 7)),
      .op (some 9) (.fad 1 (.t 3)),
      .op none (.stor 1 (.t 9) (.t 8))])
    (.seq (.reg .reg [.op (some 10) (.fad 2 (.t 1)),
      .op (some 11) (.load 1 false (.t 10)),
      .op (some 12) (.fad 2 (.t 3)),
      .op none (.stor 1 (.t 12) (.t 11))])
    (.seq (.reg .reg [.op (some 13) (.fad 3 (.t 1)),
      .op (some 14) (.load 1 false (.t 13)),
      .op (some 15) (.fad 3 (.t 3)),
      .op none (.stor 1 (.t 15) (.t 14))])
    (.seq (.reg .reg [.op (some 16) (.fad 4 (.t 1)),
      .op (some 17) (.load 1 false (.t 16)),
      .op (some 18) (.fad 4 (.t 3)),
      .op none (.stor 1 (.t 18) (.t 17))])
    (.seq (.reg .reg [.op (some 19) (.fad 5 (.t 1)),
      .op (some 20) (.load 1 false (.t 19)),
      .op (some 21) (.fad 5 (.t 3)),
      .op none (.stor 1 (.t 21) (.t 20))])
    (.seq (.reg .reg [.op (some 22) (.fad 6 (.t 1)),
      .op (some 23) (.load 1 false (.t 22)),
      .op (some 24) (.call (.c (.f 65 [])) [.t 23]),
      .op (some 25) (.fad 6 (.t 3)),
      .op none (.stor 1 (.t 25) (.t 24))])
    (.seq (.reg .reg [.op (some 26) (.fad 7 (.t 1)),
      .op (some 27) (.load 1 false (.t 26)),
      .op (some 28) (.fad 7 (.t 3)),
      .op none (.stor 1 (.t 28) (.t 27))])
    (.seq (.reg .reg [.op (some 29) (.fad 8 (.t 1)),
      .op (some 30) (.load 1 false (.t 29)),
      .op (some 31) (.fad 8 (.t 3)),
      .op none (.stor 1 (.t 31) (.t 30))])
    (.seq (.reg .reg [.op (some 32) (.load 9 true (.t 3)),
      .op none (.stor 9 (.t 2) (.t 32))])
    (.ret))))))))))))⟩
theorem B_laws_toLetter_ok : checkFn Try.prog Try.f58 B_laws_toLetter.toA = true := by kernel_rfl
theorem B_laws_toLetter_wf : B_laws_toLetter.body.wf = true := by kernel_rfl
theorem okFn_laws_toLetter : okFn Try.prog 58 = true := by kernel_rfl
def F_laws_toLetter (N : Nat) (a0 : DLetter) : Option DLetter :=
  let r1 : List DItem := (G_laws_toItemS N a0.2.2.2.2.2.2.1)
  chk (P_laws_toItemS N a0.2.2.2.2.2.2.1) <|
  some (a0.1, a0.2.1, a0.2.2.1, a0.2.2.2.1, a0.2.2.2.2.1, a0.2.2.2.2.2.1, r1, a0.2.2.2.2.2.2.2.1, a0.2.2.2.2.2.2.2.2)
theorem F_laws_toLetter_run (N : Nat) (a0 : DLetter) :
    runF (O_laws_toLetter N) N B_laws_toLetter R_laws_toLetter (vals T_laws_toLetter a0) = F_laws_toLetter N a0 := by kernel_rfl
def P_laws_toLetter (N : Nat) (a0 : DLetter) : Bool := lock (F_laws_toLetter N a0).isSome
def G_laws_toLetter (N : Nat) (a0 : DLetter) : DLetter := lock ((F_laws_toLetter N a0).getD dLetter)
theorem FG_laws_toLetter {N : Nat} (a0 : DLetter) (h : P_laws_toLetter N a0 = true) : F_laws_toLetter N a0 = some (G_laws_toLetter N a0) := by unfold P_laws_toLetter at h; unfold G_laws_toLetter; rw [lock_eq] at h ⊢; exact some_of_isSome h
theorem PG_laws_toLetter {N : Nat} {a0 : DLetter} {v : DLetter} (h : F_laws_toLetter N a0 = some v) : P_laws_toLetter N a0 = true ∧ G_laws_toLetter N a0 = v := by unfold P_laws_toLetter G_laws_toLetter; rw [h, lock_eq, lock_eq]; exact ⟨rfl, rfl⟩
def o_laws_toLetter (N : Nat) : List V → Bool × V := mkO T_laws_toLetter R_laws_toLetter (fun (x : DLetter) => P_laws_toLetter N x) (fun (x : DLetter) => G_laws_toLetter N x)
theorem laws_toLetter_entry (N : Nat) : Entry Try.prog 58 (o_laws_toLetter N) := Entry.of fun (x : DLetter) h =>
  Pf.of_run hm Try.func58 okFn_laws_toLetter B_laws_toLetter_ok B_laws_toLetter_wf (O_laws_toLetter_ok N) rfl ((F_laws_toLetter_run N x).trans (FG_laws_toLetter x h))
/-! loop.example/g00526/laws.toLetterS -/
abbrev T_laws_toLetterS : List GT := [(.sl tLetter)]
abbrev R_laws_toLetterS : List GT := [(.sl tLetter)]
def fin_laws_toLetterS : Fr2 → Hp → Option (List DLetter) := finF R_laws_toLetterS [.t 2]
def O_laws_toLetterS (N : Nat) : Orac := orc [(58, o_laws_toLetter N)] []
theorem O_laws_toLetterS_ok (N : Nat) : OrcOk Try.prog (O_laws_toLetterS N) := OrcOk.of ⟨laws_toLetter_entry N, trivial⟩ trivial
def c_laws_toLetterS_1 : C2 :=
    .seq (.seq (.reg .reg [.op (some 8) (.mov (.t 4)),
      .op (some 9) (.mov (.t 0)),
      .op (some 10) (.len false (.t 9)),
      .op (some 11) (.bin .lss (.t 8) (.t 10))])
    (.cond (.t 11) (.skip)
    (.exit 0)))
    (.seq (.block 1 (.reg .reg [.op (some 14) (.mov (.t 3)),
      .op (some 15) (.mov (.t 4)),
      .op (some 16) (.mov (.t 0)),
      .op (some 17) (.mov (.t 4)),
      .op (some 18) (.iad 9 (.t 16) (.t 17)),
      .op (some 19) (.load 9 true (.t 18)),
      .op (some 20) (.call (.c (.f 58 [])) [.t 19]),
      .op (some 21) (.iad 9 (.t 14) (.t 15)),
      .op none (.stor 9 (.t 21) (.t 20))]))
    (.reg .reg [.op (some 12) (.mov (.t 4)),
      .op (some 13) (.bin .add (.t 12) (.c (.n .i64 1))),
      .op (some 4) (.mov (.t 13))]))
def c_laws_toLetterS_2 : C2 :=
    .seq (.reg .reg [.op (some 22) (.mov (.t 3)),
      .op (some 2) (.mov (.t 22))])
    (.ret)
def τ_laws_toLetterS : Nat → Option GT
  | 7 => some tLetter
  | _ => none
def B_laws_toLetterS : F2 := ⟨23, 1, [.t 2], τ_laws_toLetterS,
    .seq (.reg .reg [.op (some 2) (.mov (.c (.l 0 0 0)))])
    (.seq (.reg .reg [.op (some 5) (.mov (.t 0)),
      .op (some 6) (.len false (.t 5)),
      .op (some 7) (.mks 88 [.n .i64 0, .n .i64 0, .n .i64 0, .n .i64 0, .n .i64 0, .n .i64 0, .l 0 0 0, .n .i64 0, .b false] (.t 6)),
      .op (some 3) (.mov (.t 7))])
    (.seq (.seq (.reg .reg [.op (some 4) (.mov (.c (.n .i64 0)))])
    (.block 0 (.loop [0, 3, 4] [] [3] c_laws_toLetterS_1)))
    (c_laws_toLetterS_2)))⟩
theorem B_laws_toLetterS_ok : checkFn Try.prog Try.f89 B_laws_toLetterS.toA = true := by kernel_rfl
theorem B_laws_toLetterS_wf : B_laws_toLetterS.body.wf = true := by kernel_rfl
theorem okFn_laws_toLetterS : okFn Try.prog 89 = true := by kernel_rfl
def laws_toLetterS_l1s (r0 : Int → List DLetter → Option (List DLetter)) (k0_0 : List DLetter → Option (List DLetter)) (N : Nat) (a0 : List DLetter) (v4_1 : Int) (h1_1 : List DLetter) : Option (List DLetter) :=
  bif (ilt v4_1 ((a0.length) : Int)) then
    let x1 : DLetter := (a0.getD (v4_1.toNat) dLetter)
    let r1 : DLetter := (G_laws_toLetter N x1)
    let h1 : List DLetter := (h1_1.set (v4_1.toNat) r1)
    chk (inb v4_1 (a0.length)) <|
    chk (P_laws_toLetter N x1) <|
    chk (inb v4_1 (h1_1.length)) <|
    r0 (w64 (v4_1 + (1 : Int))) h1
  else
    k0_0 h1_1
theorem laws_toLetterS_l1s_run (N : Nat) (C0 : Fr2 → Hp → Option (List DLetter)) (K0 : Option Nat → Fr2 → Hp → Option (List DLetter)) (a0 : List DLetter) (v4_1 : Int) (h1_1 : List DLetter) :
    rcode (O_laws_toLetterS N) τ_laws_toLetterS N fin_laws_toLetterS c_laws_toLetterS_1 [(0, .q tLetter a0), (3, .w 1), (4, .n .i64 v4_1)] ⟨2, [(1, .ty tLetter h1_1)]⟩ (roundK [0, 3, 4] [] [3] C0 K0) = laws_toLetterS_l1s (fun v4_1 h1_1 => C0 [(0, .q tLetter a0), (3, .w 1), (4, .n .i64 v4_1)] ⟨2, [(1, .ty tLetter h1_1)]⟩) (fun eh1_1 => K0 (some 0) [(3, .w 1)] ⟨2, [(1, .ty tLetter eh1_1)]⟩) N a0 v4_1 h1_1 := by kernel_rfl
def laws_toLetterS_x1_0 (N : Nat) (eh1_1 : List DLetter) : Option (List DLetter) :=
  some eh1_1
theorem laws_toLetterS_x1_0_run (N : Nat) (eh1_1 : List DLetter) :
    (blockK 0 (seqK' (fun fr H K => rcode (O_laws_toLetterS N) τ_laws_toLetterS N fin_laws_toLetterS c_laws_toLetterS_2 fr H K) (finK R_laws_toLetterS [.t 2]))) (some 0) [(3, .w 1)] ⟨2, [(1, .ty tLetter eh1_1)]⟩ = laws_toLetterS_x1_0 N eh1_1 := by kernel_rfl
def laws_toLetterS_l1 (k0_0 : List DLetter → Option (List DLetter)) (N : Nat) (a0 : List DLetter) : Nat → Int → List DLetter → Option (List DLetter)
  | 0, _, _ => none
  | n + 1, v4_1, h1_1 => laws_toLetterS_l1s (laws_toLetterS_l1 k0_0 N a0 n) k0_0 N a0 v4_1 h1_1
def laws_toLetterS_h1 (N : Nat) (a0 : List DLetter) (v4_1 : Int) (h1_1 : List DLetter) : Option (List DLetter) :=
  laws_toLetterS_l1 (fun eh1_1 => laws_toLetterS_x1_0 N eh1_1) N a0 N v4_1 h1_1
theorem laws_toLetterS_l1_run (N : Nat)  (K : Option Nat → Fr2 → Hp → Option (List DLetter)) (a0 : List DLetter) : ∀ (n : Nat) (v4_1 : Int) (h1_1 : List DLetter),
    rloop (fun fr H K => rcode (O_laws_toLetterS N) τ_laws_toLetterS N fin_laws_toLetterS c_laws_toLetterS_1 fr H K) [0, 3, 4] [] [3] K n [(0, .q tLetter a0), (3, .w 1), (4, .n .i64 v4_1)] ⟨2, [(1, .ty tLetter h1_1)]⟩ = laws_toLetterS_l1 (fun eh1_1 => K (some 0) [(3, .w 1)] ⟨2, [(1, .ty tLetter eh1_1)]⟩) N a0 n v4_1 h1_1 := by
  intro n
  induction n with
  | zero => intro v4_1 h1_1; kernel_rfl
  | succ n ih => intro v4_1 h1_1; exact (laws_toLetterS_l1s_run N (rloop (fun fr H K => rcode (O_laws_toLetterS N) τ_laws_toLetterS N fin_laws_toLetterS c_laws_toLetterS_1 fr H K) [0, 3, 4] [] [3] K n) K a0 v4_1 h1_1).trans (congrArg (fun r => laws_toLetterS_l1s r (fun eh1_1 => K (some 0) [(3, .w 1)] ⟨2, [(1, .ty tLetter eh1_1)]⟩) N a0 v4_1 h1_1) (funext fun v4_1 => funext fun h1_1 => ih v4_1 h1_1))
theorem laws_toLetterS_h1_run (N : Nat) (a0 : List DLetter) (v4_1 : Int) (h1_1 : List DLetter) : rloop (fun fr H K => rcode (O_laws_toLetterS N) τ_laws_toLetterS N fin_laws_toLetterS c_laws_toLetterS_1 fr H K) [0, 3, 4] [] [3] (blockK 0 (seqK' (fun fr H K => rcode (O_laws_toLetterS N) τ_laws_toLetterS N fin_laws_toLetterS c_laws_toLetterS_2 fr H K) (finK R_laws_toLetterS [.t 2]))) N [(0, .q tLetter a0), (3, .w 1), (4, .n .i64 v4_1)] ⟨2, [(1, .ty tLetter h1_1)]⟩ = laws_toLetterS_h1 N a0 v4_1 h1_1 :=
  ((laws_toLetterS_l1_run N (blockK 0 (seqK' (fun fr H K => rcode (O_laws_toLetterS N) τ_laws_toLetterS N fin_laws_toLetterS c_laws_toLetterS_2 fr H K) (finK R_laws_toLetterS [.t 2]))) a0 N v4_1 h1_1)).trans (congrArg (fun h => laws_toLetterS_l1 h N a0 N v4_1 h1_1) (funext fun eh1_1 => laws_toLetterS_x1_0_run N eh1_1))
def F_laws_toLetterSR (N : Nat) (laws_toLetterS_h1 : List DLetter → Int → List DLetter → Option (List DLetter)) (a0 : List DLetter) : Option (List DLetter) :=
  chk (mkOk 88 ((a0.length) : Int)) <|
  laws_toLetterS_h1 a0 (0 : Int) (List.replicate (((a0.length) : Int).toNat) dLetter)
def F_laws_toLetterS (N : Nat) (a0 : List DLetter) : Option (List DLetter) := F_laws_toLetterSR N (laws_toLetterS_h1 N) a0
theorem F_laws_toLetterS_raw (N : Nat) (a0 : List DLetter) :
    runF (O_laws_toLetterS N) N B_laws_toLetterS R_laws_toLetterS (vals T_laws_toLetterS a0) = F_laws_toLetterSR N (fun a0 v4_1 h1_1 => rloop (fun fr H K => rcode (O_laws_toLetterS N) τ_laws_toLetterS N fin_laws_toLetterS c_laws_toLetterS_1 fr H K) [0, 3, 4] [] [3] (blockK 0 (seqK' (fun fr H K => rcode (O_laws_toLetterS N) τ_laws_toLetterS N fin_laws_toLetterS c_laws_toLetterS_2 fr H K) (finK R_laws_toLetterS [.t 2]))) N [(0, .q tLetter a0), (3, .w 1), (4, .n .i64 v4_1)] ⟨2, [(1, .ty tLetter h1_1)]⟩) a0 := by kernel_rfl
theorem F_laws_toLetterS_run (N : Nat) (a0 : List DLetter) :
    runF (O_laws_toLetterS N) N B_laws_toLetterS R_laws_toLetterS (vals T_laws_toLetterS a0) = F_laws_toLetterS N a0 :=
  (F_laws_toLetterS_raw N a0).trans (congrArg (fun h => F_laws_toLetterSR N h a0) (funext fun a0 => funext fun v4_1 => funext fun h1_1 => laws_toLetterS_h1_run N a0 v4_1 h1_1))
def P_laws_toLetterS (N : Nat) (a0 : List DLetter) : Bool := lock (F_laws_toLetterS N a0).isSome
def G_laws_toLetterS (N : Nat) (a0 : List DLetter) : (List DLetter) := lock ((F_laws_toLetterS N a0).getD [])
theorem FG_laws_toLetterS {N : Nat} (a0 : List DLetter) (h : P_laws_toLetterS N a0 = true) : F_laws_toLetterS N a0 = some (G_laws_toLetterS N a0) := by unfold P_laws_toLetterS at h; unfold G_laws_toLetterS; rw [lock_eq] at h ⊢; exact some_of_isSome h
theorem PG_laws_toLetterS {N : Nat} {a0 : List DLetter} {v : (List DLetter)} (h : F_laws_toLetterS N a0 = some v) : P_laws_toLetterS N a0 = true ∧ G_laws_toLetterS N a0 = v := by unfold P_laws_toLetterS G_laws_toLetterS; rw [h, lock_eq, lock_eq]; exact ⟨rfl, rfl⟩
def o_laws_toLetterS (N : Nat) : List V → Bool × V := mkO T_laws_toLetterS R_laws_toLetterS (fun (x : List DLetter) => P_laws_toLetterS N x) (fun (x : List DLetter) => G_laws_toLetterS N x)
theorem laws_toLetterS_entry (N : Nat) : Entry Try.prog 89 (o_laws_toLetterS N) := Entry.of fun (x : List DLetter) h =>
  Pf.of_run hm Try.func89 okFn_laws_toLetterS B_laws_toLetterS_ok B_laws_toLetterS_wf (O_laws_toLetterS_ok N) rfl ((F_laws_toLetterS_run N x).trans (FG_laws_toLetterS x h))
/-! loop.example/g00526/laws.toHouse -/
abbrev T_laws_toHouse : List GT := [tHouse]
abbrev R_laws_toHouse : List GT := [tHouse]
def fin_laws_toHouse : Fr2 → Hp → Option DHouse := finF R_laws_toHouse [.cell 2 2 true]
def O_laws_toHouse (N : Nat) : Orac := orc [(88, o_laws_toKeeperS N), (89, o_laws_toLetterS N)] []
theorem O_laws_toHouse_ok (N : Nat) : OrcOk Try.prog (O_laws_toHouse N) := OrcOk.of ⟨laws_toKeeperS_entry N, laws_toLetterS_entry N, trivial⟩ trivial
def τ_laws_toHouse : Nat → Option GT := fun _ => none
def B_laws_toHouse : F2 := ⟨13, 1, [.cell 2 2 true], τ_laws_toHouse,
    .seq (.reg .reg [.op (some 1) (.box (.t 0)),
      .op (some 2) (.aloc [.l 0 0 0, .l 0 0 0])])
    (.seq (.reg .reg [.op (some 3) (.aloc [.l 0 0 0, .l 0 0 0])])
    (.seq (.reg .reg [.op (some 4) (.fad 0 (.t 1)),
      .op (some 5) (.load 1 false (.t 4)),
      .op (some 6) (.call (.c (.f 88 [])) [.t 5]),
      .op (some 7) (.fad 0 (.t 3)),
      .op none (.stor 1 (.t 7) (.t 6))])
    (.seq (.reg .reg [.op (some 8) (.fad 1 (.t 1)),
      .op (some 9) (.load 1 false (.t 8)),
      .op (some 10) (.call (.c (.f 89 [])) [.t 9]),
      .op (some 11) (.fad 1 (.t 3)),
      .op none (.stor 1 (.t 11) (.t 10))])
    (.seq (.reg .reg [.op (some 12) (.load 2 true (.t 3)),
      .op none (.stor 2 (.t 2) (.t 12))])
    (.ret)))))⟩
theorem B_laws_toHouse_ok : checkFn Try.prog Try.f42 B_laws_toHouse.toA = true := by kernel_rfl
theorem B_laws_toHouse_wf : B_laws_toHouse.body.wf = true := by kernel_rfl
theorem okFn_laws_toHouse : okFn Try.prog 42 = true := by kernel_rfl
def F_laws_toHouse (N : Nat) (a0 : DHouse) : Option DHouse :=
  let r1 : List DKeeper := (G_laws_toKeeperS N a0.1)
  chk (P_laws_toKeeperS N a0.1) <|
  let r2 : List DLetter := (G_laws_toLetterS N a0.2)
  chk (P_laws_toLetterS N a0.2) <|
  some (r1, r2)
theorem F_laws_toHouse_run (N : Nat) (a0 : DHouse) :
    runF (O_laws_toHouse N) N B_laws_toHouse R_laws_toHouse (vals T_laws_toHouse a0) = F_laws_toHouse N a0 := by kernel_rfl
def P_laws_toHouse (N : Nat) (a0 : DHouse) : Bool := lock (F_laws_toHouse N a0).isSome
def G_laws_toHouse (N : Nat) (a0 : DHouse) : DHouse := lock ((F_laws_toHouse N a0).getD dHouse)
theorem FG_laws_toHouse {N : Nat} (a0 : DHouse) (h : P_laws_toHouse N a0 = true) : F_laws_toHouse N a0 = some (G_laws_toHouse N a0) := by unfold P_laws_toHouse at h; unfold G_laws_toHouse; rw [lock_eq] at h ⊢; exact some_of_isSome h
theorem PG_laws_toHouse {N : Nat} {a0 : DHouse} {v : DHouse} (h : F_laws_toHouse N a0 = some v) : P_laws_toHouse N a0 = true ∧ G_laws_toHouse N a0 = v := by unfold P_laws_toHouse G_laws_toHouse; rw [h, lock_eq, lock_eq]; exact ⟨rfl, rfl⟩
def o_laws_toHouse (N : Nat) : List V → Bool × V := mkO T_laws_toHouse R_laws_toHouse (fun (x : DHouse) => P_laws_toHouse N x) (fun (x : DHouse) => G_laws_toHouse N x)
theorem laws_toHouse_entry (N : Nat) : Entry Try.prog 42 (o_laws_toHouse N) := Entry.of fun (x : DHouse) h =>
  Pf.of_run hm Try.func42 okFn_laws_toHouse B_laws_toHouse_ok B_laws_toHouse_wf (O_laws_toHouse_ok N) rfl ((F_laws_toHouse_run N x).trans (FG_laws_toHouse x h))
/-! loop.example/g00526/spec.l1In -/
abbrev T_spec_l1In : List GT := [(.i .i64), (.i .i64), (.i .i64)]
abbrev R_spec_l1In : List GT := [.b]
def fin_spec_l1In : Fr2 → Hp → Option Bool := finF R_spec_l1In [.t 6]
def O_spec_l1In (N : Nat) : Orac := orc [] []
theorem O_spec_l1In_ok (N : Nat) : OrcOk Try.prog (O_spec_l1In N) := OrcOk.of trivial trivial
def τ_spec_l1In : Nat → Option GT := fun _ => none
def B_spec_l1In : F2 := ⟨15, 3, [.t 6], τ_spec_l1In,
    .seq (.reg .reg [.op (some 6) (.mov (.c (.b false)))])
    (.seq (.reg .reg [.op (some 7) (.mov (.t 0)),
      .op (some 8) (.mov (.t 1)),
      .op (some 9) (.bin .geq (.t 7) (.t 8)),
      .op (some 10) (.mov (.t 9)),
      .br 10 true [.op (some 11) (.mov (.t 0)), .op (some 12) (.mov (.t 2)), .op (some 13) (.bin .leq (.t 11) (.t 12))] [11, 12, 13] 14 13,
      .op (some 6) (.mov (.t 14))])
    (.ret))⟩
theorem B_spec_l1In_ok : checkFn Try.prog Try.f62 B_spec_l1In.toA = true := by kernel_rfl
theorem B_spec_l1In_wf : B_spec_l1In.body.wf = true := by kernel_rfl
theorem okFn_spec_l1In : okFn Try.prog 62 = true := by kernel_rfl
def F_spec_l1In (N : Nat) (a0 : Int) (a1 : Int) (a2 : Int) : Option Bool :=
  some ((ile a1 a0) && (ile a0 a2))
theorem F_spec_l1In_run (N : Nat) (a0 : Int) (a1 : Int) (a2 : Int) :
    runF (O_spec_l1In N) N B_spec_l1In R_spec_l1In (vals T_spec_l1In (a0, a1, a2)) = F_spec_l1In N a0 a1 a2 := by kernel_rfl
def G_spec_l1In (a0 : Int) (a1 : Int) (a2 : Int) : Bool :=
  ((ile a1 a0) && (ile a0 a2))
theorem FG_spec_l1In (N : Nat) (a0 : Int) (a1 : Int) (a2 : Int) : F_spec_l1In N a0 a1 a2 = some (G_spec_l1In a0 a1 a2) := by
  first | rfl | (simp only [F_spec_l1In, G_spec_l1In, cond_some]; done) | (unfold F_spec_l1In G_spec_l1In; simp only [cond_some]; done)
def o_spec_l1In : List V → Bool × V := mkO T_spec_l1In R_spec_l1In (fun (x : (Int × Int × Int)) => true) (fun (x : (Int × Int × Int)) => G_spec_l1In x.1 x.2.1 x.2.2)
theorem spec_l1In_entry : Entry Try.prog 62 o_spec_l1In := Entry.of fun (x : (Int × Int × Int)) _ =>
  Pf.of_run hm Try.func62 okFn_spec_l1In B_spec_l1In_ok B_spec_l1In_wf (O_spec_l1In_ok 0) rfl ((F_spec_l1In_run 0 x.1 x.2.1 x.2.2).trans (FG_spec_l1In 0 x.1 x.2.1 x.2.2))
/-! loop.example/g00526/spec.l14Plain -/
abbrev T_spec_l14Plain : List GT := [.s, (.i .i64)]
abbrev R_spec_l14Plain : List GT := [.b]
def fin_spec_l14Plain : Fr2 → Hp → Option Bool := finF R_spec_l14Plain [.t 4]
def O_spec_l14Plain (N : Nat) : Orac := orc [] []
theorem O_spec_l14Plain_ok (N : Nat) : OrcOk Try.prog (O_spec_l14Plain N) := OrcOk.of trivial trivial
def c_spec_l14Plain_1 : C2 :=
    .seq (.seq (.reg .reg [.op (some 6) (.mov (.t 5)),
      .op (some 7) (.mov (.t 0)),
      .op (some 8) (.len true (.t 7)),
      .op (some 9) (.bin .lss (.t 6) (.t 8))])
    (.cond (.t 9) (.skip)
    (.exit 0)))
    (.seq (.block 1 (.seq (.reg .reg [.op (some 12) (.mov (.t 0)),
      .op (some 13) (.mov (.t 5)),
      .op (some 14) (.idx (.t 12) (.t 13)),
      .op (some 15) (.bin .eql (.t 14) (.c (.n .u8 10)))])
    (.cond (.t 15) (.seq (.reg .reg [.op (some 4) (.mov (.c (.b false)))])
    (.ret))
    (.skip))))
    (.reg .reg [.op (some 10) (.mov (.t 5)),
      .op (some 11) (.bin .add (.t 10) (.c (.n .i64 1))),
      .op (some 5) (.mov (.t 11))]))
def c_spec_l14Plain_2 : C2 :=
    .seq (.reg .reg [.op (some 16) (.mov (.t 0)),
      .op (some 17) (.len true (.t 16)),
      .op (some 18) (.mov (.t 1)),
      .op (some 19) (.bin .leq (.t 17) (.t 18)),
      .op (some 4) (.mov (.t 19))])
    (.ret)
def τ_spec_l14Plain : Nat → Option GT := fun _ => none
def B_spec_l14Plain : F2 := ⟨20, 2, [.t 4], τ_spec_l14Plain,
    .seq (.reg .reg [.op (some 4) (.mov (.c (.b false)))])
    (.seq (.seq (.reg .reg [.op (some 5) (.mov (.c (.n .i64 0)))])
    (.block 0 (.loop [0, 1, 5] [] [0, 1] c_spec_l14Plain_1)))
    (c_spec_l14Plain_2))⟩
theorem B_spec_l14Plain_ok : checkFn Try.prog Try.f99 B_spec_l14Plain.toA = true := by kernel_rfl
theorem B_spec_l14Plain_wf : B_spec_l14Plain.body.wf = true := by kernel_rfl
theorem okFn_spec_l14Plain : okFn Try.prog 99 = true := by kernel_rfl
def spec_l14Plain_l1s (r0 : Int → Option Bool) (k0_0 : Option Bool) (N : Nat) (a0 : ByteArray) (a1 : Int) (v5_1 : Int) : Option Bool :=
  bif (ilt v5_1 (a0.size : Int)) then
    chk (inb v5_1 a0.size) <|
    bif (ieq ((a0[(v5_1.toNat)]!).toNat : Int) (10 : Int)) then
      some false
    else
      r0 (w64 (v5_1 + (1 : Int)))
  else
    k0_0
theorem spec_l14Plain_l1s_run (N : Nat) (C0 : Fr2 → Hp → Option Bool) (K0 : Option Nat → Fr2 → Hp → Option Bool) (a0 : ByteArray) (a1 : Int) (v5_1 : Int) :
    rcode (O_spec_l14Plain N) τ_spec_l14Plain N fin_spec_l14Plain c_spec_l14Plain_1 [(0, .s a0), (1, .n .i64 a1), (5, .n .i64 v5_1)] ⟨1, []⟩ (roundK [0, 1, 5] [] [0, 1] C0 K0) = spec_l14Plain_l1s (fun v5_1 => C0 [(0, .s a0), (1, .n .i64 a1), (5, .n .i64 v5_1)] ⟨1, []⟩) (K0 (some 0) [(0, .s a0), (1, .n .i64 a1)] ⟨1, []⟩) N a0 a1 v5_1 := by kernel_rfl
def spec_l14Plain_x1_0 (N : Nat) (a0 : ByteArray) (a1 : Int) : Option Bool :=
  some (ile (a0.size : Int) a1)
theorem spec_l14Plain_x1_0_run (N : Nat) (a0 : ByteArray) (a1 : Int) :
    (blockK 0 (seqK' (fun fr H K => rcode (O_spec_l14Plain N) τ_spec_l14Plain N fin_spec_l14Plain c_spec_l14Plain_2 fr H K) (finK R_spec_l14Plain [.t 4]))) (some 0) [(0, .s a0), (1, .n .i64 a1)] ⟨1, []⟩ = spec_l14Plain_x1_0 N a0 a1 := by kernel_rfl
def spec_l14Plain_l1 (k0_0 : Option Bool) (N : Nat) (a0 : ByteArray) (a1 : Int) : Nat → Int → Option Bool
  | 0, _ => none
  | n + 1, v5_1 => spec_l14Plain_l1s (spec_l14Plain_l1 k0_0 N a0 a1 n) k0_0 N a0 a1 v5_1
def spec_l14Plain_h1 (N : Nat) (a0 : ByteArray) (a1 : Int) (v5_1 : Int) : Option Bool :=
  spec_l14Plain_l1 (spec_l14Plain_x1_0 N a0 a1) N a0 a1 N v5_1
theorem spec_l14Plain_l1_run (N : Nat)  (K : Option Nat → Fr2 → Hp → Option Bool) (a0 : ByteArray) (a1 : Int) : ∀ (n : Nat) (v5_1 : Int),
    rloop (fun fr H K => rcode (O_spec_l14Plain N) τ_spec_l14Plain N fin_spec_l14Plain c_spec_l14Plain_1 fr H K) [0, 1, 5] [] [0, 1] K n [(0, .s a0), (1, .n .i64 a1), (5, .n .i64 v5_1)] ⟨1, []⟩ = spec_l14Plain_l1 (K (some 0) [(0, .s a0), (1, .n .i64 a1)] ⟨1, []⟩) N a0 a1 n v5_1 := by
  intro n
  induction n with
  | zero => intro v5_1; kernel_rfl
  | succ n ih => intro v5_1; exact (spec_l14Plain_l1s_run N (rloop (fun fr H K => rcode (O_spec_l14Plain N) τ_spec_l14Plain N fin_spec_l14Plain c_spec_l14Plain_1 fr H K) [0, 1, 5] [] [0, 1] K n) K a0 a1 v5_1).trans (congrArg (fun r => spec_l14Plain_l1s r (K (some 0) [(0, .s a0), (1, .n .i64 a1)] ⟨1, []⟩) N a0 a1 v5_1) (funext fun v5_1 => ih v5_1))
theorem spec_l14Plain_h1_run (N : Nat) (a0 : ByteArray) (a1 : Int) (v5_1 : Int) : rloop (fun fr H K => rcode (O_spec_l14Plain N) τ_spec_l14Plain N fin_spec_l14Plain c_spec_l14Plain_1 fr H K) [0, 1, 5] [] [0, 1] (blockK 0 (seqK' (fun fr H K => rcode (O_spec_l14Plain N) τ_spec_l14Plain N fin_spec_l14Plain c_spec_l14Plain_2 fr H K) (finK R_spec_l14Plain [.t 4]))) N [(0, .s a0), (1, .n .i64 a1), (5, .n .i64 v5_1)] ⟨1, []⟩ = spec_l14Plain_h1 N a0 a1 v5_1 :=
  ((spec_l14Plain_l1_run N (blockK 0 (seqK' (fun fr H K => rcode (O_spec_l14Plain N) τ_spec_l14Plain N fin_spec_l14Plain c_spec_l14Plain_2 fr H K) (finK R_spec_l14Plain [.t 4]))) a0 a1 N v5_1)).trans (congrArg (fun h => spec_l14Plain_l1 h N a0 a1 N v5_1) (spec_l14Plain_x1_0_run N a0 a1))
def F_spec_l14PlainR (N : Nat) (spec_l14Plain_h1 : ByteArray → Int → Int → Option Bool) (a0 : ByteArray) (a1 : Int) : Option Bool :=
  spec_l14Plain_h1 a0 a1 (0 : Int)
def F_spec_l14Plain (N : Nat) (a0 : ByteArray) (a1 : Int) : Option Bool := F_spec_l14PlainR N (spec_l14Plain_h1 N) a0 a1
theorem F_spec_l14Plain_raw (N : Nat) (a0 : ByteArray) (a1 : Int) :
    runF (O_spec_l14Plain N) N B_spec_l14Plain R_spec_l14Plain (vals T_spec_l14Plain (a0, a1)) = F_spec_l14PlainR N (fun a0 a1 v5_1 => rloop (fun fr H K => rcode (O_spec_l14Plain N) τ_spec_l14Plain N fin_spec_l14Plain c_spec_l14Plain_1 fr H K) [0, 1, 5] [] [0, 1] (blockK 0 (seqK' (fun fr H K => rcode (O_spec_l14Plain N) τ_spec_l14Plain N fin_spec_l14Plain c_spec_l14Plain_2 fr H K) (finK R_spec_l14Plain [.t 4]))) N [(0, .s a0), (1, .n .i64 a1), (5, .n .i64 v5_1)] ⟨1, []⟩) a0 a1 := by kernel_rfl
theorem F_spec_l14Plain_run (N : Nat) (a0 : ByteArray) (a1 : Int) :
    runF (O_spec_l14Plain N) N B_spec_l14Plain R_spec_l14Plain (vals T_spec_l14Plain (a0, a1)) = F_spec_l14Plain N a0 a1 :=
  (F_spec_l14Plain_raw N a0 a1).trans (congrArg (fun h => F_spec_l14PlainR N h a0 a1) (funext fun a0 => funext fun a1 => funext fun v5_1 => spec_l14Plain_h1_run N a0 a1 v5_1))
def P_spec_l14Plain (N : Nat) (a0 : ByteArray) (a1 : Int) : Bool := lock (F_spec_l14Plain N a0 a1).isSome
def G_spec_l14Plain (N : Nat) (a0 : ByteArray) (a1 : Int) : Bool := lock ((F_spec_l14Plain N a0 a1).getD false)
theorem FG_spec_l14Plain {N : Nat} (a0 : ByteArray) (a1 : Int) (h : P_spec_l14Plain N a0 a1 = true) : F_spec_l14Plain N a0 a1 = some (G_spec_l14Plain N a0 a1) := by unfold P_spec_l14Plain at h; unfold G_spec_l14Plain; rw [lock_eq] at h ⊢; exact some_of_isSome h
theorem PG_spec_l14Plain {N : Nat} {a0 : ByteArray} {a1 : Int} {v : Bool} (h : F_spec_l14Plain N a0 a1 = some v) : P_spec_l14Plain N a0 a1 = true ∧ G_spec_l14Plain N a0 a1 = v := by unfold P_spec_l14Plain G_spec_l14Plain; rw [h, lock_eq, lock_eq]; exact ⟨rfl, rfl⟩
def o_spec_l14Plain (N : Nat) : List V → Bool × V := mkO T_spec_l14Plain R_spec_l14Plain (fun (x : (ByteArray × Int)) => P_spec_l14Plain N x.1 x.2) (fun (x : (ByteArray × Int)) => G_spec_l14Plain N x.1 x.2)
theorem spec_l14Plain_entry (N : Nat) : Entry Try.prog 99 (o_spec_l14Plain N) := Entry.of fun (x : (ByteArray × Int)) h =>
  Pf.of_run hm Try.func99 okFn_spec_l14Plain B_spec_l14Plain_ok B_spec_l14Plain_wf (O_spec_l14Plain_ok N) rfl ((F_spec_l14Plain_run N x.1 x.2).trans (FG_spec_l14Plain x.1 x.2 h))
/-! loop.example/g00526/spec.l16Item -/
abbrev T_spec_l16Item : List GT := [tItem]
abbrev R_spec_l16Item : List GT := [.b]
def fin_spec_l16Item : Fr2 → Hp → Option Bool := finF R_spec_l16Item [.t 2]
def O_spec_l16Item (N : Nat) : Orac := orc [(62, o_spec_l1In), (99, o_spec_l14Plain N)] []
theorem O_spec_l16Item_ok (N : Nat) : OrcOk Try.prog (O_spec_l16Item N) := OrcOk.of ⟨spec_l1In_entry, spec_l14Plain_entry N, trivial⟩ trivial
def τ_spec_l16Item : Nat → Option GT := fun _ => none
def B_spec_l16Item : F2 := ⟨11, 1, [.t 2], τ_spec_l16Item,
    .seq (.reg .reg [.op (some 1) (.box (.t 0)),
      .op (some 2) (.mov (.c (.b false)))])
    (.seq (.reg .reg [.op (some 3) (.fad 0 (.t 1)),
      .op (some 4) (.load 1 false (.t 3)),
      .op (some 5) (.call (.c (.f 62 [])) [.t 4, .c (.n .i64 1), .c (.n .i64 1000)]),
      .op (some 6) (.mov (.t 5)),
      .br 6 true [.op (some 7) (.fad 1 (.t 1)), .op (some 8) (.load 1 false (.t 7)), .op (some 9) (.call (.c (.f 99 [])) [.t 8, .c (.n .i64 300)])] [7, 8, 9] 10 9,
      .op (some 2) (.mov (.t 10))])
    (.ret))⟩
theorem B_spec_l16Item_ok : checkFn Try.prog Try.f63 B_spec_l16Item.toA = true := by kernel_rfl
theorem B_spec_l16Item_wf : B_spec_l16Item.body.wf = true := by kernel_rfl
theorem okFn_spec_l16Item : okFn Try.prog 63 = true := by kernel_rfl
def F_spec_l16Item (N : Nat) (a0 : DItem) : Option Bool :=
  chk ((P_spec_l14Plain N a0.2 (300 : Int)) || (!(G_spec_l1In a0.1 (1 : Int) (1000 : Int)))) <|
  some ((G_spec_l1In a0.1 (1 : Int) (1000 : Int)) && (G_spec_l14Plain N a0.2 (300 : Int)))
theorem F_spec_l16Item_run (N : Nat) (a0 : DItem) :
    runF (O_spec_l16Item N) N B_spec_l16Item R_spec_l16Item (vals T_spec_l16Item a0) = F_spec_l16Item N a0 := by kernel_rfl
def P_spec_l16Item (N : Nat) (a0 : DItem) : Bool := lock (F_spec_l16Item N a0).isSome
def G_spec_l16Item (N : Nat) (a0 : DItem) : Bool := lock ((F_spec_l16Item N a0).getD false)
theorem FG_spec_l16Item {N : Nat} (a0 : DItem) (h : P_spec_l16Item N a0 = true) : F_spec_l16Item N a0 = some (G_spec_l16Item N a0) := by unfold P_spec_l16Item at h; unfold G_spec_l16Item; rw [lock_eq] at h ⊢; exact some_of_isSome h
theorem PG_spec_l16Item {N : Nat} {a0 : DItem} {v : Bool} (h : F_spec_l16Item N a0 = some v) : P_spec_l16Item N a0 = true ∧ G_spec_l16Item N a0 = v := by unfold P_spec_l16Item G_spec_l16Item; rw [h, lock_eq, lock_eq]; exact ⟨rfl, rfl⟩
def o_spec_l16Item (N : Nat) : List V → Bool × V := mkO T_spec_l16Item R_spec_l16Item (fun (x : DItem) => P_spec_l16Item N x) (fun (x : DItem) => G_spec_l16Item N x)
theorem spec_l16Item_entry (N : Nat) : Entry Try.prog 63 (o_spec_l16Item N) := Entry.of fun (x : DItem) h =>
  Pf.of_run hm Try.func63 okFn_spec_l16Item B_spec_l16Item_ok B_spec_l16Item_wf (O_spec_l16Item_ok N) rfl ((F_spec_l16Item_run N x).trans (FG_spec_l16Item x h))
/-! loop.example/g00526/spec.l16Three -/
abbrev T_spec_l16Three : List GT := [(.sl (.i .i64)), (.i .i64), (.i .i64)]
abbrev R_spec_l16Three : List GT := [.b]
def fin_spec_l16Three : Fr2 → Hp → Option Bool := finF R_spec_l16Three [.t 6]
def O_spec_l16Three (N : Nat) : Orac := orc [(62, o_spec_l1In)] []
theorem O_spec_l16Three_ok (N : Nat) : OrcOk Try.prog (O_spec_l16Three N) := OrcOk.of ⟨spec_l1In_entry, trivial⟩ trivial
def c_spec_l16Three_1 : C2 :=
    .seq (.seq (.reg .reg [.op (some 8) (.mov (.t 7)),
      .op (some 9) (.mov (.t 0)),
      .op (some 10) (.len false (.t 9)),
      .op (some 11) (.bin .lss (.t 8) (.t 10))])
    (.cond (.t 11) (.skip)
    (.exit 0)))
    (.seq (.block 1 (.seq (.reg .reg [.op (some 14) (.mov (.t 0)),
      .op (some 15) (.mov (.t 7)),
      .op (some 16) (.iad 1 (.t 14) (.t 15)),
      .op (some 17) (.load 1 false (.t 16)),
      .op (some 18) (.mov (.t 1)),
      .op (some 19) (.mov (.t 2)),
      .op (some 20) (.call (.c (.f 62 [])) [.t 17, .t 18, .t 19]),
      .op (some 21) (.un .not (.t 20))])
    (.cond (.t 21) (.seq (.reg .reg [.op (some 6) (.mov (.c (.b false)))])
    (.ret))
    (.skip))))
    (.reg .reg [.op (some 12) (.mov (.t 7)),
      .op (some 13) (.bin .add (.t 12) (.c (.n .i64 1))),
      .op (some 7) (.mov (.t 13))]))
def c_spec_l16Three_2 : C2 :=
    .seq (.reg .reg [.op (some 22) (.mov (.t 0)),
      .op (some 23) (.len false (.t 22)),
      .op (some 24) (.bin .eql (.t 23) (.c (.n .i64 3))),
      .op (some 6) (.mov (.t 24))])
    (.ret)
def τ_spec_l16Three : Nat → Option GT := fun _ => none
def B_spec_l16Three : F2 := ⟨25, 3, [.t 6], τ_spec_l16Three,
    .seq (.reg .reg [.op (some 6) (.mov (.c (.b false)))])
    (.seq (.seq (.reg .reg [.op (some 7) (.mov (.c (.n .i64 0)))])
    (.block 0 (.loop [0, 1, 2, 7] [] [0] c_spec_l16Three_1)))
    (c_spec_l16Three_2))⟩
theorem B_spec_l16Three_ok : checkFn Try.prog Try.f64 B_spec_l16Three.toA = true := by kernel_rfl
theorem B_spec_l16Three_wf : B_spec_l16Three.body.wf = true := by kernel_rfl
theorem okFn_spec_l16Three : okFn Try.prog 64 = true := by kernel_rfl
def spec_l16Three_l1s (r0 : Int → Option Bool) (k0_0 : Option Bool) (N : Nat) (a0 : List Int) (a1 : Int) (a2 : Int) (v7_1 : Int) : Option Bool :=
  bif (ilt v7_1 ((a0.length) : Int)) then
    let x1 : Int := (a0.getD (v7_1.toNat) (0 : Int))
    chk (inb v7_1 (a0.length)) <|
    bif (!(G_spec_l1In x1 a1 a2)) then
      some false
    else
      r0 (w64 (v7_1 + (1 : Int)))
  else
    k0_0
theorem spec_l16Three_l1s_run (N : Nat) (C0 : Fr2 → Hp → Option Bool) (K0 : Option Nat → Fr2 → Hp → Option Bool) (a0 : List Int) (a1 : Int) (a2 : Int) (v7_1 : Int) :
    rcode (O_spec_l16Three N) τ_spec_l16Three N fin_spec_l16Three c_spec_l16Three_1 [(0, .q (.i .i64) a0), (1, .n .i64 a1), (2, .n .i64 a2), (7, .n .i64 v7_1)] ⟨1, []⟩ (roundK [0, 1, 2, 7] [] [0] C0 K0) = spec_l16Three_l1s (fun v7_1 => C0 [(0, .q (.i .i64) a0), (1, .n .i64 a1), (2, .n .i64 a2), (7, .n .i64 v7_1)] ⟨1, []⟩) (K0 (some 0) [(0, .q (.i .i64) a0)] ⟨1, []⟩) N a0 a1 a2 v7_1 := by kernel_rfl
def spec_l16Three_x1_0 (N : Nat) (a0 : List Int) : Option Bool :=
  some (ieq ((a0.length) : Int) (3 : Int))
theorem spec_l16Three_x1_0_run (N : Nat) (a0 : List Int) :
    (blockK 0 (seqK' (fun fr H K => rcode (O_spec_l16Three N) τ_spec_l16Three N fin_spec_l16Three c_spec_l16Three_2 fr H K) (finK R_spec_l16Three [.t 6]))) (some 0) [(0, .q (.i .i64) a0)] ⟨1, []⟩ = spec_l16Three_x1_0 N a0 := by kernel_rfl
def spec_l16Three_l1 (k0_0 : Option Bool) (N : Nat) (a0 : List Int) (a1 : Int) (a2 : Int) : Nat → Int → Option Bool
  | 0, _ => none
  | n + 1, v7_1 => spec_l16Three_l1s (spec_l16Three_l1 k0_0 N a0 a1 a2 n) k0_0 N a0 a1 a2 v7_1
def spec_l16Three_h1 (N : Nat) (a0 : List Int) (a1 : Int) (a2 : Int) (v7_1 : Int) : Option Bool :=
  spec_l16Three_l1 (spec_l16Three_x1_0 N a0) N a0 a1 a2 N v7_1
theorem spec_l16Three_l1_run (N : Nat)  (K : Option Nat → Fr2 → Hp → Option Bool) (a0 : List Int) (a1 : Int) (a2 : Int) : ∀ (n : Nat) (v7_1 : Int),
    rloop (fun fr H K => rcode (O_spec_l16Three N) τ_spec_l16Three N fin_spec_l16Three c_spec_l16Three_1 fr H K) [0, 1, 2, 7] [] [0] K n [(0, .q (.i .i64) a0), (1, .n .i64 a1), (2, .n .i64 a2), (7, .n .i64 v7_1)] ⟨1, []⟩ = spec_l16Three_l1 (K (some 0) [(0, .q (.i .i64) a0)] ⟨1, []⟩) N a0 a1 a2 n v7_1 := by
  intro n
  induction n with
  | zero => intro v7_1; kernel_rfl
  | succ n ih => intro v7_1; exact (spec_l16Three_l1s_run N (rloop (fun fr H K => rcode (O_spec_l16Three N) τ_spec_l16Three N fin_spec_l16Three c_spec_l16Three_1 fr H K) [0, 1, 2, 7] [] [0] K n) K a0 a1 a2 v7_1).trans (congrArg (fun r => spec_l16Three_l1s r (K (some 0) [(0, .q (.i .i64) a0)] ⟨1, []⟩) N a0 a1 a2 v7_1) (funext fun v7_1 => ih v7_1))
theorem spec_l16Three_h1_run (N : Nat) (a0 : List Int) (a1 : Int) (a2 : Int) (v7_1 : Int) : rloop (fun fr H K => rcode (O_spec_l16Three N) τ_spec_l16Three N fin_spec_l16Three c_spec_l16Three_1 fr H K) [0, 1, 2, 7] [] [0] (blockK 0 (seqK' (fun fr H K => rcode (O_spec_l16Three N) τ_spec_l16Three N fin_spec_l16Three c_spec_l16Three_2 fr H K) (finK R_spec_l16Three [.t 6]))) N [(0, .q (.i .i64) a0), (1, .n .i64 a1), (2, .n .i64 a2), (7, .n .i64 v7_1)] ⟨1, []⟩ = spec_l16Three_h1 N a0 a1 a2 v7_1 :=
  ((spec_l16Three_l1_run N (blockK 0 (seqK' (fun fr H K => rcode (O_spec_l16Three N) τ_spec_l16Three N fin_spec_l16Three c_spec_l16Three_2 fr H K) (finK R_spec_l16Three [.t 6]))) a0 a1 a2 N v7_1)).trans (congrArg (fun h => spec_l16Three_l1 h N a0 a1 a2 N v7_1) (spec_l16Three_x1_0_run N a0))
def F_spec_l16ThreeR (N : Nat) (spec_l16Three_h1 : List Int → Int → Int → Int → Option Bool) (a0 : List Int) (a1 : Int) (a2 : Int) : Option Bool :=
  spec_l16Three_h1 a0 a1 a2 (0 : Int)
def F_spec_l16Three (N : Nat) (a0 : List Int) (a1 : Int) (a2 : Int) : Option Bool := F_spec_l16ThreeR N (spec_l16Three_h1 N) a0 a1 a2
theorem F_spec_l16Three_raw (N : Nat) (a0 : List Int) (a1 : Int) (a2 : Int) :
    runF (O_spec_l16Three N) N B_spec_l16Three R_spec_l16Three (vals T_spec_l16Three (a0, a1, a2)) = F_spec_l16ThreeR N (fun a0 a1 a2 v7_1 => rloop (fun fr H K => rcode (O_spec_l16Three N) τ_spec_l16Three N fin_spec_l16Three c_spec_l16Three_1 fr H K) [0, 1, 2, 7] [] [0] (blockK 0 (seqK' (fun fr H K => rcode (O_spec_l16Three N) τ_spec_l16Three N fin_spec_l16Three c_spec_l16Three_2 fr H K) (finK R_spec_l16Three [.t 6]))) N [(0, .q (.i .i64) a0), (1, .n .i64 a1), (2, .n .i64 a2), (7, .n .i64 v7_1)] ⟨1, []⟩) a0 a1 a2 := by kernel_rfl
theorem F_spec_l16Three_run (N : Nat) (a0 : List Int) (a1 : Int) (a2 : Int) :
    runF (O_spec_l16Three N) N B_spec_l16Three R_spec_l16Three (vals T_spec_l16Three (a0, a1, a2)) = F_spec_l16Three N a0 a1 a2 :=
  (F_spec_l16Three_raw N a0 a1 a2).trans (congrArg (fun h => F_spec_l16ThreeR N h a0 a1 a2) (funext fun a0 => funext fun a1 => funext fun a2 => funext fun v7_1 => spec_l16Three_h1_run N a0 a1 a2 v7_1))
def P_spec_l16Three (N : Nat) (a0 : List Int) (a1 : Int) (a2 : Int) : Bool := lock (F_spec_l16Three N a0 a1 a2).isSome
def G_spec_l16Three (N : Nat) (a0 : List Int) (a1 : Int) (a2 : Int) : Bool := lock ((F_spec_l16Three N a0 a1 a2).getD false)
theorem FG_spec_l16Three {N : Nat} (a0 : List Int) (a1 : Int) (a2 : Int) (h : P_spec_l16Three N a0 a1 a2 = true) : F_spec_l16Three N a0 a1 a2 = some (G_spec_l16Three N a0 a1 a2) := by unfold P_spec_l16Three at h; unfold G_spec_l16Three; rw [lock_eq] at h ⊢; exact some_of_isSome h
theorem PG_spec_l16Three {N : Nat} {a0 : List Int} {a1 : Int} {a2 : Int} {v : Bool} (h : F_spec_l16Three N a0 a1 a2 = some v) : P_spec_l16Three N a0 a1 a2 = true ∧ G_spec_l16Three N a0 a1 a2 = v := by unfold P_spec_l16Three G_spec_l16Three; rw [h, lock_eq, lock_eq]; exact ⟨rfl, rfl⟩
def o_spec_l16Three (N : Nat) : List V → Bool × V := mkO T_spec_l16Three R_spec_l16Three (fun (x : (List Int × Int × Int)) => P_spec_l16Three N x.1 x.2.1 x.2.2) (fun (x : (List Int × Int × Int)) => G_spec_l16Three N x.1 x.2.1 x.2.2)
theorem spec_l16Three_entry (N : Nat) : Entry Try.prog 64 (o_spec_l16Three N) := Entry.of fun (x : (List Int × Int × Int)) h =>
  Pf.of_run hm Try.func64 okFn_spec_l16Three B_spec_l16Three_ok B_spec_l16Three_wf (O_spec_l16Three_ok N) rfl ((F_spec_l16Three_run N x.1 x.2.1 x.2.2).trans (FG_spec_l16Three x.1 x.2.1 x.2.2 h))
/-! loop.example/g00526/spec.KeeperOk -/
abbrev T_spec_KeeperOk : List GT := [tKeeper]
abbrev R_spec_KeeperOk : List GT := [.b]
def fin_spec_KeeperOk : Fr2 → Hp → Option Bool := finF R_spec_KeeperOk [.t 2]
def O_spec_KeeperOk (N : Nat) : Orac := orc [(62, o_spec_l1In), (63, o_spec_l16Item N), (64, o_spec_l16Three N)] []
theorem O_spec_KeeperOk_ok (N : Nat) : OrcOk Try.prog (O_spec_KeeperOk N) := OrcOk.of ⟨spec_l1In_entry, spec_l16Item_entry N, spec_l16Three_entry N, trivial⟩ trivial
def c_spec_KeeperOk_1 : C2 :=
    .seq (.seq (.reg .reg [.op (some 57) (.mov (.t 4)),
      .op (some 58) (.fad 3 (.t 1)),
      .op (some 59) (.load 1 false (.t 58)),
      .op (some 60) (.len false (.t 59)),
      .op (some 61) (.bin .lss (.t 57) (.t 60))])
    (.cond (.t 61) (.skip)
    (.exit 0)))
    (.seq (.block 1 (.seq (.reg (.plan (.take 0 (.take 1 (.take 2 (.take 3 (.take 4 (.all [(5, .take 6 (.take 7 (.take 8 (.take 9 (.take 10 (.take 11 (.take 12 (.take 13 (.take 14 (.take 15 (.take 16 (.take 17 (.take 18 (.take 19 (.take 20 (.take 21 (.take 22 (.take 23 (.take 24 (.take 25 (.take 26 (.take 27 (.take 28 (.take 29 (.take 30 (.take 31 (.take 32 (.take 33 (.take 34 (.take 35 (.take 36 (.take 37 (.done)))))))))))))))))))))))))))))))))])))))) [0, 1, 2, 3, 4, 8, 9, 10, 11, 12, 13, 14, 15, 16, 19, 20, 21, 22, 23, 24, 25, 26, 27, 28, 29, 30, 31, 32, 33, 34, 35]) [.op (some 64) (.fad 3 (.t 1)),
      .op (some 65) (.load 1 false (.t 64)),
      .op (some 66) (.mov (.t 4)),
      .op (some 67) (.iad 2 (.t 65) (.t 66)),
      .op (some 68) (.load 2 true (.t 67)),
      .op (some 69) (.call (.c (.f 63 [])) [.t 68]),
      .op (some 70) (.un .not (.t 69)),
      .op (some 71) (.mov (.t 70)),
      .br 71 false [.op (some 72) (.fad 3 (.t 1)), .op (some 73) (.load 1 false (.t 72)), .op (some 74) (.mov (.t 4)), .op (some 75) (.iad 2 (.t 73) (.t 74)), .op (some 76) (.fad 0 (.t 75)), .op (some 77) (.load 1 false (.t 76)), .op (some 78) (.fad 1 (.t 1)), .op (some 79) (.load 1 false (.t 78)), .op (some 80) (.bin .gtr (.t 77) (.t 79))] [72, 73, 74, 75, 76, 77, 78, 79, 80] 81 80,
      .op (some 82) (.mov (.t 81)),
      .br 82 false [.op (some 83) (.mov (.t 4)), .op (some 84) (.bin .gtr (.t 83) (.c (.n .i64 0))), .op (some 85) (.mov (.t 84)), .br 85 true [.op (some 86) (.fad 3 (.t 1)), .op (some 87) (.load 1 false (.t 86)), .op (some 88) (.mov (.t 4)), .op (some 89) (.iad 2 (.t 87) (.t 88)), .op (some 90) (.fad 0 (.t 89)), .op (some 91) (.load 1 false (.t 90)), .op (some 92) (.fad 3 (.t 1)), .op (some 93) (.load 1 false (.t 92)), .op (some 94) (.mov (.t 4)), .op (some 95) (.bin .sub (.t 94) (.c (.n .i64 1))), .op (some 96) (.iad 2 (.t 93) (.t 95)), .op (some 97) (.fad 0 (.t 96)), .op (some 98) (.load 1 false (.t 97)), .op (some 99) (.bin .lss (.t 91) (.t 98))] [86, 87, 88, 89, 90, 91, 92, 93, 94, 95, 96, 97, 98, 99] 100 99] [83, 84, 85, 86, 87, 88, 89, 90, 91, 92, 93, 94, 95, 96, 97, 98, 99, 100] 101 100])
    (.cond (.t 101) (.seq (.reg .reg [.op (some 2) (.mov (.c (.b false)))])
    (.ret))
    (.skip))))
    (.reg .reg [.op (some 62) (.mov (.t 4)),
      .op (some 63) (.bin .add (.t 62) (.c (.n .i64 1))),
      .op (some 4) (.mov (.t 63))]))
def c_spec_KeeperOk_2 : C2 :=
    .seq (.seq (.reg .reg [.op (some 102) (.fad 9 (.t 1)),
      .op (some 103) (.load 1 false (.t 102)),
      .op (some 104) (.mov (.t 103)),
      .br 104 true [.op (some 105) (.fad 4 (.t 1)), .op (some 106) (.load 1 false (.t 105)), .op (some 107) (.bin .neq (.t 106) (.c (.n .i64 0))), .op (some 108) (.mov (.t 107)), .br 108 false [.op (some 109) (.fad 6 (.t 1)), .op (some 110) (.load 1 false (.t 109)), .op (some 111) (.bin .neq (.t 110) (.c (.n .i64 0)))] [109, 110, 111] 112 111, .op (some 113) (.mov (.t 112)), .br 113 false [.op (some 114) (.fad 5 (.t 1)), .op (some 115) (.load 1 false (.t 114)), .op (some 116) (.bin .neq (.t 115) (.c (.n .i64 0)))] [114, 115, 116] 117 116] [105, 106, 107, 108, 109, 110, 111, 112, 113, 114, 115, 116, 117] 118 117])
    (.cond (.t 118) (.seq (.reg .reg [.op (some 2) (.mov (.c (.b false)))])
    (.ret))
    (.skip)))
    (.seq (.seq (.reg .reg [.op (some 119) (.fad 4 (.t 1)),
      .op (some 120) (.load 1 false (.t 119)),
      .op (some 121) (.bin .eql (.t 120) (.c (.n .i64 2)))])
    (.cond (.t 121) (.seq (.reg .reg [.op (some 122) (.fad 7 (.t 1)),
      .op (some 123) (.load 1 false (.t 122)),
      .op (some 124) (.mov (.t 3)),
      .op (some 125) (.bin .add (.t 124) (.c (.n .i64 1))),
      .op (some 126) (.call (.c (.f 64 [])) [.t 123, .c (.n .i64 1), .t 125]),
      .op (some 127) (.mov (.t 126)),
      .br 127 true [.op (some 128) (.fad 8 (.t 1)), .op (some 129) (.load 1 false (.t 128)), .op (some 130) (.mov (.t 3)), .op (some 131) (.call (.c (.f 64 [])) [.t 129, .c (.n .i64 0), .t 130])] [128, 129, 130, 131] 132 131,
      .op (some 2) (.mov (.t 132))])
    (.ret))
    (.skip)))
    (.seq (.reg .reg [.op (some 133) (.fad 7 (.t 1)),
      .op (some 134) (.load 1 false (.t 133)),
      .op (some 135) (.len false (.t 134)),
      .op (some 136) (.bin .eql (.t 135) (.c (.n .i64 0))),
      .op (some 137) (.mov (.t 136)),
      .br 137 true [.op (some 138) (.fad 8 (.t 1)), .op (some 139) (.load 1 false (.t 138)), .op (some 140) (.len false (.t 139)), .op (some 141) (.bin .eql (.t 140) (.c (.n .i64 0)))] [138, 139, 140, 141] 142 141,
      .op (some 2) (.mov (.t 142))])
    (.ret)))
def τ_spec_KeeperOk : Nat → Option GT := fun _ => none
def B_spec_KeeperOk : F2 := ⟨143, 1, [.t 2], τ_spec_KeeperOk,
    .seq (.reg .reg [.op (some 1) (.box (.t 0)),
      .op (some 2) (.mov (.c (.b false)))])
    (.seq (.reg .reg [.op (some 5) (.fad 3 (.t 1)),
      .op (some 6) (.load 1 false (.t 5)),
      .op (some 7) (.len false (.t 6)),
      .op (some 3) (.mov (.t 7))])
    (.seq (.seq (.reg .reg [.op (some 8) (.fad 0 (.t 1)),
      .op (some 9) (.load 1 false (.t 8)),
      .op (some 10) (.call (.c (.f 62 [])) [.t 9, .c (.n .i64 0), .c (.n .i64 2)]),
      .op (some 11) (.un .not (.t 10)),
      .op (some 12) (.mov (.t 11)),
      .br 12 false [.op (some 13) (.fad 1 (.t 1)), .op (some 14) (.load 1 false (.t 13)), .op (some 15) (.call (.c (.f 62 [])) [.t 14, .c (.n .i64 0), .c (.n .i64 1000)]), .op (some 16) (.un .not (.t 15))] [13, 14, 15, 16] 17 16,
      .op (some 18) (.mov (.t 17)),
      .br 18 false [.op (some 19) (.fad 2 (.t 1)), .op (some 20) (.load 1 false (.t 19)), .op (some 21) (.call (.c (.f 62 [])) [.t 20, .c (.n .i64 (-1)), .c (.n .i64 2)]), .op (some 22) (.un .not (.t 21))] [19, 20, 21, 22] 23 22,
      .op (some 24) (.mov (.t 23)),
      .br 24 false [.op (some 25) (.mov (.t 3)), .op (some 26) (.bin .gtr (.t 25) (.c (.n .i64 40)))] [25, 26] 27 26,
      .op (some 28) (.mov (.t 27)),
      .br 28 false [.op (some 29) (.fad 4 (.t 1)), .op (some 30) (.load 1 false (.t 29)), .op (some 31) (.call (.c (.f 62 [])) [.t 30, .c (.n .i64 0), .c (.n .i64 2)]), .op (some 32) (.un .not (.t 31))] [29, 30, 31, 32] 33 32,
      .op (some 34) (.mov (.t 33)),
      .br 34 false [.op (some 35) (.fad 5 (.t 1)), .op (some 36) (.load 1 false (.t 35)), .op (some 37) (.call (.c (.f 62 [])) [.t 36, .c (.n .i64 0), .c (.n .i64 7)]), .op (some 38) (.un .not (.t 37))] [35, 36, 37, 38] 39 38,
      .op (some 40) (.mov (.t 39)),
      .br 40 false [.op (some 41) (.fad 6 (.t 1)), .op (some 42) (.load 1 false (.t 41)), .op (some 43) (.mov (.t 3)), .op (some 44) (.call (.c (.f 62 [])) [.t 42, .c (.n .i64 0), .t 43]), .op (some 45) (.un .not (.t 44))] [41, 42, 43, 44, 45] 46 45,
      .op (some 47) (.mov (.t 46)),
      .br 47 false [.op (some 48) (.fad 4 (.t 1)), .op (some 49) (.load 1 false (.t 48)), .op (some 50) (.bin .neq (.t 49) (.c (.n .i64 0))), .op (some 51) (.mov (.t 50)), .br 51 true [.op (some 52) (.fad 1 (.t 1)), .op (some 53) (.load 1 false (.t 52)), .op (some 54) (.bin .eql (.t 53) (.c (.n .i64 0)))] [52, 53, 54] 55 54] [48, 49, 50, 51, 52, 53, 54, 55] 56 55])
    (.cond (.t 56) (.seq (.reg .reg [.op (some 2) (.mov (.c (.b false)))])
    (.ret))
    (.skip)))
    (.seq (.seq (.reg .reg [.op (some 4) (.mov (.c (.n .i64 0)))])
    (.block 0 (.loop [1, 3, 4] [] [1, 3] c_spec_KeeperOk_1)))
    (c_spec_KeeperOk_2))))⟩
theorem B_spec_KeeperOk_ok : checkFn Try.prog Try.f15 B_spec_KeeperOk.toA = true := by kernel_rfl
theorem B_spec_KeeperOk_wf : B_spec_KeeperOk.body.wf = true := by kernel_rfl
theorem okFn_spec_KeeperOk : okFn Try.prog 15 = true := by kernel_rfl
def spec_KeeperOk_l1s (r0 : Int → Option Bool) (k0_0 : Option Bool) (N : Nat) (pv3_1 : Int) (v4_1 : Int) (pb1_1 : Int) (pb1_1_2 : Int) (pb1_1_3 : Int) (pb1_1_4 : List DItem) (pb1_1_5 : Int) (pb1_1_6 : Int) (pb1_1_7 : Int) (pb1_1_8 : List Int) (pb1_1_9 : List Int) (pb1_1_10 : Bool) : Option Bool :=
  bif (ilt v4_1 ((pb1_1_4.length) : Int)) then
    let x1 : DItem := (pb1_1_4.getD (v4_1.toNat) dItem)
    let x2 : DItem := (pb1_1_4.getD (v4_1.toNat) dItem)
    let x3 : DItem := (pb1_1_4.getD (v4_1.toNat) dItem)
    let x4 : DItem := (pb1_1_4.getD ((w64 (v4_1 - (1 : Int))).toNat) dItem)
    chk (inb v4_1 (pb1_1_4.length)) <|
    chk (P_spec_l16Item N x1) <|
    chk ((inb v4_1 (pb1_1_4.length)) || !(!(!(G_spec_l16Item N x1)))) <|
    chk ((inb v4_1 (pb1_1_4.length)) || !((!((!(G_spec_l16Item N x1)) || (ilt pb1_1_2 x2.1))) && (ilt (0 : Int) v4_1))) <|
    chk ((inb (w64 (v4_1 - (1 : Int))) (pb1_1_4.length)) || !((!((!(G_spec_l16Item N x1)) || (ilt pb1_1_2 x2.1))) && (ilt (0 : Int) v4_1))) <|
    bif (((!(G_spec_l16Item N x1)) || (ilt pb1_1_2 x2.1)) || ((ilt (0 : Int) v4_1) && (ilt x3.1 x4.1))) then
      some false
    else
      r0 (w64 (v4_1 + (1 : Int)))
  else
    k0_0
theorem spec_KeeperOk_l1s_run (N : Nat) (C0 : Fr2 → Hp → Option Bool) (K0 : Option Nat → Fr2 → Hp → Option Bool) (pv3_1 : Int) (v4_1 : Int) (pb1_1 : Int) (pb1_1_2 : Int) (pb1_1_3 : Int) (pb1_1_4 : List DItem) (pb1_1_5 : Int) (pb1_1_6 : Int) (pb1_1_7 : Int) (pb1_1_8 : List Int) (pb1_1_9 : List Int) (pb1_1_10 : Bool) :
    rcode (O_spec_KeeperOk N) τ_spec_KeeperOk N fin_spec_KeeperOk c_spec_KeeperOk_1 [(1, .p 1 0 0), (3, .n .i64 pv3_1), (4, .n .i64 v4_1)] ⟨2, [(1, .un 10 [[.n .i64 pb1_1, .n .i64 pb1_1_2, .n .i64 pb1_1_3, .q tItem pb1_1_4, .n .i64 pb1_1_5, .n .i64 pb1_1_6, .n .i64 pb1_1_7, .q (.i .i64) pb1_1_8, .q (.i .i64) pb1_1_9, .b pb1_1_10]])]⟩ (roundK [1, 3, 4] [] [1, 3] C0 K0) = spec_KeeperOk_l1s (fun v4_1 => C0 [(1, .p 1 0 0), (3, .n .i64 pv3_1), (4, .n .i64 v4_1)] ⟨2, [(1, .un 10 [[.n .i64 pb1_1, .n .i64 pb1_1_2, .n .i64 pb1_1_3, .q tItem pb1_1_4, .n .i64 pb1_1_5, .n .i64 pb1_1_6, .n .i64 pb1_1_7, .q (.i .i64) pb1_1_8, .q (.i .i64) pb1_1_9, .b pb1_1_10]])]⟩) (K0 (some 0) [(1, .p 1 0 0), (3, .n .i64 pv3_1)] ⟨2, [(1, .un 10 [[.n .i64 pb1_1, .n .i64 pb1_1_2, .n .i64 pb1_1_3, .q tItem pb1_1_4, .n .i64 pb1_1_5, .n .i64 pb1_1_6, .n .i64 pb1_1_7, .q (.i .i64) pb1_1_8, .q (.i .i64) pb1_1_9, .b pb1_1_10]])]⟩) N pv3_1 v4_1 pb1_1 pb1_1_2 pb1_1_3 pb1_1_4 pb1_1_5 pb1_1_6 pb1_1_7 pb1_1_8 pb1_1_9 pb1_1_10 := by kernel_rfl
def spec_KeeperOk_x1_0 (N : Nat) (pv3_1 : Int) (pb1_1 : Int) (pb1_1_2 : Int) (pb1_1_3 : Int) (pb1_1_4 : List DItem) (pb1_1_5 : Int) (pb1_1_6 : Int) (pb1_1_7 : Int) (pb1_1_8 : List Int) (pb1_1_9 : List Int) (pb1_1_10 : Bool) : Option Bool :=
  bif (pb1_1_10 && (((!ieq pb1_1_5 (0 : Int)) || (!ieq pb1_1_7 (0 : Int))) || (!ieq pb1_1_6 (0 : Int)))) then
    some false
  else
    bif (ieq pb1_1_5 (2 : Int)) then
      chk (P_spec_l16Three N pb1_1_8 (1 : Int) (w64 (pv3_1 + (1 : Int)))) <|
      chk ((P_spec_l16Three N pb1_1_9 (0 : Int) pv3_1) || (!(G_spec_l16Three N pb1_1_8 (1 : Int) (w64 (pv3_1 + (1 : Int)))))) <|
      some ((G_spec_l16Three N pb1_1_8 (1 : Int) (w64 (pv3_1 + (1 : Int)))) && (G_spec_l16Three N pb1_1_9 (0 : Int) pv3_1))
    else
      some ((ieq ((pb1_1_8.length) : Int) (0 : Int)) && (ieq ((pb1_1_9.length) : Int) (0 : Int)))
theorem spec_KeeperOk_x1_0_run (N : Nat) (pv3_1 : Int) (pb1_1 : Int) (pb1_1_2 : Int) (pb1_1_3 : Int) (pb1_1_4 : List DItem) (pb1_1_5 : Int) (pb1_1_6 : Int) (pb1_1_7 : Int) (pb1_1_8 : List Int) (pb1_1_9 : List Int) (pb1_1_10 : Bool) :
    (blockK 0 (seqK' (fun fr H K => rcode (O_spec_KeeperOk N) τ_spec_KeeperOk N fin_spec_KeeperOk c_spec_KeeperOk_2 fr H K) (finK R_spec_KeeperOk [.t 2]))) (some 0) [(1, .p 1 0 0), (3, .n .i64 pv3_1)] ⟨2, [(1, .un 10 [[.n .i64 pb1_1, .n .i64 pb1_1_2, .n .i64 pb1_1_3, .q tItem pb1_1_4, .n .i64 pb1_1_5, .n .i64 pb1_1_6, .n .i64 pb1_1_7, .q (.i .i64) pb1_1_8, .q (.i .i64) pb1_1_9, .b pb1_1_10]])]⟩ = spec_KeeperOk_x1_0 N pv3_1 pb1_1 pb1_1_2 pb1_1_3 pb1_1_4 pb1_1_5 pb1_1_6 pb1_1_7 pb1_1_8 pb1_1_9 pb1_1_10 := by kernel_rfl
def spec_KeeperOk_l1 (k0_0 : Option Bool) (N : Nat) (pv3_1 : Int) (pb1_1 : Int) (pb1_1_2 : Int) (pb1_1_3 : Int) (pb1_1_4 : List DItem) (pb1_1_5 : Int) (pb1_1_6 : Int) (pb1_1_7 : Int) (pb1_1_8 : List Int) (pb1_1_9 : List Int) (pb1_1_10 : Bool) : Nat → Int → Option Bool
  | 0, _ => none
  | n + 1, v4_1 => spec_KeeperOk_l1s (spec_KeeperOk_l1 k0_0 N pv3_1 pb1_1 pb1_1_2 pb1_1_3 pb1_1_4 pb1_1_5 pb1_1_6 pb1_1_7 pb1_1_8 pb1_1_9 pb1_1_10 n) k0_0 N pv3_1 v4_1 pb1_1 pb1_1_2 pb1_1_3 pb1_1_4 pb1_1_5 pb1_1_6 pb1_1_7 pb1_1_8 pb1_1_9 pb1_1_10
def spec_KeeperOk_h1 (N : Nat) (pv3_1 : Int) (v4_1 : Int) (pb1_1 : Int) (pb1_1_2 : Int) (pb1_1_3 : Int) (pb1_1_4 : List DItem) (pb1_1_5 : Int) (pb1_1_6 : Int) (pb1_1_7 : Int) (pb1_1_8 : List Int) (pb1_1_9 : List Int) (pb1_1_10 : Bool) : Option Bool :=
  spec_KeeperOk_l1 (spec_KeeperOk_x1_0 N pv3_1 pb1_1 pb1_1_2 pb1_1_3 pb1_1_4 pb1_1_5 pb1_1_6 pb1_1_7 pb1_1_8 pb1_1_9 pb1_1_10) N pv3_1 pb1_1 pb1_1_2 pb1_1_3 pb1_1_4 pb1_1_5 pb1_1_6 pb1_1_7 pb1_1_8 pb1_1_9 pb1_1_10 N v4_1
theorem spec_KeeperOk_l1_run (N : Nat)  (K : Option Nat → Fr2 → Hp → Option Bool) (pv3_1 : Int) (pb1_1 : Int) (pb1_1_2 : Int) (pb1_1_3 : Int) (pb1_1_4 : List DItem) (pb1_1_5 : Int) (pb1_1_6 : Int) (pb1_1_7 : Int) (pb1_1_8 : List Int) (pb1_1_9 : List Int) (pb1_1_10 : Bool) : ∀ (n : Nat) (v4_1 : Int),
    rloop (fun fr H K => rcode (O_spec_KeeperOk N) τ_spec_KeeperOk N fin_spec_KeeperOk c_spec_KeeperOk_1 fr H K) [1, 3, 4] [] [1, 3] K n [(1, .p 1 0 0), (3, .n .i64 pv3_1), (4, .n .i64 v4_1)] ⟨2, [(1, .un 10 [[.n .i64 pb1_1, .n .i64 pb1_1_2, .n .i64 pb1_1_3, .q tItem pb1_1_4, .n .i64 pb1_1_5, .n .i64 pb1_1_6, .n .i64 pb1_1_7, .q (.i .i64) pb1_1_8, .q (.i .i64) pb1_1_9, .b pb1_1_10]])]⟩ = spec_KeeperOk_l1 (K (some 0) [(1, .p 1 0 0), (3, .n .i64 pv3_1)] ⟨2, [(1, .un 10 [[.n .i64 pb1_1, .n .i64 pb1_1_2, .n .i64 pb1_1_3, .q tItem pb1_1_4, .n .i64 pb1_1_5, .n .i64 pb1_1_6, .n .i64 pb1_1_7, .q (.i .i64) pb1_1_8, .q (.i .i64) pb1_1_9, .b pb1_1_10]])]⟩) N pv3_1 pb1_1 pb1_1_2 pb1_1_3 pb1_1_4 pb1_1_5 pb1_1_6 pb1_1_7 pb1_1_8 pb1_1_9 pb1_1_10 n v4_1 := by
  intro n
  induction n with
  | zero => intro v4_1; kernel_rfl
  | succ n ih => intro v4_1; exact (spec_KeeperOk_l1s_run N (rloop (fun fr H K => rcode (O_spec_KeeperOk N) τ_spec_KeeperOk N fin_spec_KeeperOk c_spec_KeeperOk_1 fr H K) [1, 3, 4] [] [1, 3] K n) K pv3_1 v4_1 pb1_1 pb1_1_2 pb1_1_3 pb1_1_4 pb1_1_5 pb1_1_6 pb1_1_7 pb1_1_8 pb1_1_9 pb1_1_10).trans (congrArg (fun r => spec_KeeperOk_l1s r (K (some 0) [(1, .p 1 0 0), (3, .n .i64 pv3_1)] ⟨2, [(1, .un 10 [[.n .i64 pb1_1, .n .i64 pb1_1_2, .n .i64 pb1_1_3, .q tItem pb1_1_4, .n .i64 pb1_1_5, .n .i64 pb1_1_6, .n .i64 pb1_1_7, .q (.i .i64) pb1_1_8, .q (.i .i64) pb1_1_9, .b pb1_1_10]])]⟩) N pv3_1 v4_1 pb1_1 pb1_1_2 pb1_1_3 pb1_1_4 pb1_1_5 pb1_1_6 pb1_1_7 pb1_1_8 pb1_1_9 pb1_1_10) (funext fun v4_1 => ih v4_1))
theorem spec_KeeperOk_h1_run (N : Nat) (pv3_1 : Int) (v4_1 : Int) (pb1_1 : Int) (pb1_1_2 : Int) (pb1_1_3 : Int) (pb1_1_4 : List DItem) (pb1_1_5 : Int) (pb1_1_6 : Int) (pb1_1_7 : Int) (pb1_1_8 : List Int) (pb1_1_9 : List Int) (pb1_1_10 : Bool) : rloop (fun fr H K => rcode (O_spec_KeeperOk N) τ_spec_KeeperOk N fin_spec_KeeperOk c_spec_KeeperOk_1 fr H K) [1, 3, 4] [] [1, 3] (blockK 0 (seqK' (fun fr H K => rcode (O_spec_KeeperOk N) τ_spec_KeeperOk N fin_spec_KeeperOk c_spec_KeeperOk_2 fr H K) (finK R_spec_KeeperOk [.t 2]))) N [(1, .p 1 0 0), (3, .n .i64 pv3_1), (4, .n .i64 v4_1)] ⟨2, [(1, .un 10 [[.n .i64 pb1_1, .n .i64 pb1_1_2, .n .i64 pb1_1_3, .q tItem pb1_1_4, .n .i64 pb1_1_5, .n .i64 pb1_1_6, .n .i64 pb1_1_7, .q (.i .i64) pb1_1_8, .q (.i .i64) pb1_1_9, .b pb1_1_10]])]⟩ = spec_KeeperOk_h1 N pv3_1 v4_1 pb1_1 pb1_1_2 pb1_1_3 pb1_1_4 pb1_1_5 pb1_1_6 pb1_1_7 pb1_1_8 pb1_1_9 pb1_1_10 :=
  ((spec_KeeperOk_l1_run N (blockK 0 (seqK' (fun fr H K => rcode (O_spec_KeeperOk N) τ_spec_KeeperOk N fin_spec_KeeperOk c_spec_KeeperOk_2 fr H K) (finK R_spec_KeeperOk [.t 2]))) pv3_1 pb1_1 pb1_1_2 pb1_1_3 pb1_1_4 pb1_1_5 pb1_1_6 pb1_1_7 pb1_1_8 pb1_1_9 pb1_1_10 N v4_1)).trans (congrArg (fun h => spec_KeeperOk_l1 h N pv3_1 pb1_1 pb1_1_2 pb1_1_3 pb1_1_4 pb1_1_5 pb1_1_6 pb1_1_7 pb1_1_8 pb1_1_9 pb1_1_10 N v4_1) (spec_KeeperOk_x1_0_run N pv3_1 pb1_1 pb1_1_2 pb1_1_3 pb1_1_4 pb1_1_5 pb1_1_6 pb1_1_7 pb1_1_8 pb1_1_9 pb1_1_10))
def F_spec_KeeperOkR (N : Nat) (spec_KeeperOk_h1 : Int → Int → Int → Int → Int → List DItem → Int → Int → Int → List Int → List Int → Bool → Option Bool) (a0 : DKeeper) : Option Bool :=
  bif ((((((((!(G_spec_l1In a0.1 (0 : Int) (2 : Int))) || (!(G_spec_l1In a0.2.1 (0 : Int) (1000 : Int)))) || (!(G_spec_l1In a0.2.2.1 (-1 : Int) (2 : Int)))) || (ilt (40 : Int) ((a0.2.2.2.1.length) : Int))) || (!(G_spec_l1In a0.2.2.2.2.1 (0 : Int) (2 : Int)))) || (!(G_spec_l1In a0.2.2.2.2.2.1 (0 : Int) (7 : Int)))) || (!(G_spec_l1In a0.2.2.2.2.2.2.1 (0 : Int) ((a0.2.2.2.1.length) : Int)))) || ((!ieq a0.2.2.2.2.1 (0 : Int)) && (ieq a0.2.1 (0 : Int)))) then
    some false
  else
    spec_KeeperOk_h1 ((a0.2.2.2.1.length) : Int) (0 : Int) a0.1 a0.2.1 a0.2.2.1 a0.2.2.2.1 a0.2.2.2.2.1 a0.2.2.2.2.2.1 a0.2.2.2.2.2.2.1 a0.2.2.2.2.2.2.2.1 a0.2.2.2.2.2.2.2.2.1 a0.2.2.2.2.2.2.2.2.2
def F_spec_KeeperOk (N : Nat) (a0 : DKeeper) : Option Bool := F_spec_KeeperOkR N (spec_KeeperOk_h1 N) a0
theorem F_spec_KeeperOk_raw (N : Nat) (a0 : DKeeper) :
    runF (O_spec_KeeperOk N) N B_spec_KeeperOk R_spec_KeeperOk (vals T_spec_KeeperOk a0) = F_spec_KeeperOkR N (fun pv3_1 v4_1 pb1_1 pb1_1_2 pb1_1_3 pb1_1_4 pb1_1_5 pb1_1_6 pb1_1_7 pb1_1_8 pb1_1_9 pb1_1_10 => rloop (fun fr H K => rcode (O_spec_KeeperOk N) τ_spec_KeeperOk N fin_spec_KeeperOk c_spec_KeeperOk_1 fr H K) [1, 3, 4] [] [1, 3] (blockK 0 (seqK' (fun fr H K => rcode (O_spec_KeeperOk N) τ_spec_KeeperOk N fin_spec_KeeperOk c_spec_KeeperOk_2 fr H K) (finK R_spec_KeeperOk [.t 2]))) N [(1, .p 1 0 0), (3, .n .i64 pv3_1), (4, .n .i64 v4_1)] ⟨2, [(1, .un 10 [[.n .i64 pb1_1, .n .i64 pb1_1_2, .n .i64 pb1_1_3, .q tItem pb1_1_4, .n .i64 pb1_1_5, .n .i64 pb1_1_6, .n .i64 pb1_1_7, .q (.i .i64) pb1_1_8, .q (.i .i64) pb1_1_9, .b pb1_1_10]])]⟩) a0 := by kernel_rfl
theorem F_spec_KeeperOk_run (N : Nat) (a0 : DKeeper) :
    runF (O_spec_KeeperOk N) N B_spec_KeeperOk R_spec_KeeperOk (vals T_spec_KeeperOk a0) = F_spec_KeeperOk N a0 :=
  (F_spec_KeeperOk_raw N a0).trans (congrArg (fun h => F_spec_KeeperOkR N h a0) (funext fun pv3_1 => funext fun v4_1 => funext fun pb1_1 => funext fun pb1_1_2 => funext fun pb1_1_3 => funext fun pb1_1_4 => funext fun pb1_1_5 => funext fun pb1_1_6 => funext fun pb1_1_7 => funext fun pb1_1_8 => funext fun pb1_1_9 => funext fun pb1_1_10 => spec_KeeperOk_h1_run N pv3_1 v4_1 pb1_1 pb1_1_2 pb1_1_3 pb1_1_4 pb1_1_5 pb1_1_6 pb1_1_7 pb1_1_8 pb1_1_9 pb1_1_10))
def P_spec_KeeperOk (N : Nat) (a0 : DKeeper) : Bool := lock (F_spec_KeeperOk N a0).isSome
def G_spec_KeeperOk (N : Nat) (a0 : DKeeper) : Bool := lock ((F_spec_KeeperOk N a0).getD false)
theorem FG_spec_KeeperOk {N : Nat} (a0 : DKeeper) (h : P_spec_KeeperOk N a0 = true) : F_spec_KeeperOk N a0 = some (G_spec_KeeperOk N a0) := by unfold P_spec_KeeperOk at h; unfold G_spec_KeeperOk; rw [lock_eq] at h ⊢; exact some_of_isSome h
theorem PG_spec_KeeperOk {N : Nat} {a0 : DKeeper} {v : Bool} (h : F_spec_KeeperOk N a0 = some v) : P_spec_KeeperOk N a0 = true ∧ G_spec_KeeperOk N a0 = v := by unfold P_spec_KeeperOk G_spec_KeeperOk; rw [h, lock_eq, lock_eq]; exact ⟨rfl, rfl⟩
def o_spec_KeeperOk (N : Nat) : List V → Bool × V := mkO T_spec_KeeperOk R_spec_KeeperOk (fun (x : DKeeper) => P_spec_KeeperOk N x) (fun (x : DKeeper) => G_spec_KeeperOk N x)
theorem spec_KeeperOk_entry (N : Nat) : Entry Try.prog 15 (o_spec_KeeperOk N) := Entry.of fun (x : DKeeper) h =>
  Pf.of_run hm Try.func15 okFn_spec_KeeperOk B_spec_KeeperOk_ok B_spec_KeeperOk_wf (O_spec_KeeperOk_ok N) rfl ((F_spec_KeeperOk_run N x).trans (FG_spec_KeeperOk x h))
/-! loop.example/g00526/spec.LetterOk -/
abbrev T_spec_LetterOk : List GT := [tLetter]
abbrev R_spec_LetterOk : List GT := [.b]
def fin_spec_LetterOk : Fr2 → Hp → Option Bool := finF R_spec_LetterOk [.t 2]
def O_spec_LetterOk (N : Nat) : Orac := orc [(62, o_spec_l1In), (63, o_spec_l16Item N)] []
theorem O_spec_LetterOk_ok (N : Nat) : OrcOk Try.prog (O_spec_LetterOk N) := OrcOk.of ⟨spec_l1In_entry, spec_l16Item_entry N, trivial⟩ trivial
def c_spec_LetterOk_1 : C2 :=
    .seq (.seq (.reg .reg [.op (some 51) (.mov (.t 3)),
      .op (some 52) (.fad 6 (.t 1)),
      .op (some 53) (.load 1 false (.t 52)),
      .op (some 54) (.len false (.t 53)),
      .op (some 55) (.bin .lss (.t 51) (.t 54))])
    (.cond (.t 55) (.skip)
    (.exit 0)))
    (.seq (.block 1 (.seq (.reg .reg [.op (some 58) (.fad 6 (.t 1)),
      .op (some 59) (.load 1 false (.t 58)),
      .op (some 60) (.mov (.t 3)),
      .op (some 61) (.iad 2 (.t 59) (.t 60)),
      .op (some 62) (.load 2 true (.t 61)),
      .op (some 63) (.call (.c (.f 63 [])) [.t 62]),
      .op (some 64) (.un .not (.t 63))])
    (.cond (.t 64) (.seq (.reg .reg [.op (some 2) (.mov (.c (.b false)))])
    (.ret))
    (.skip))))
    (.reg .reg [.op (some 56) (.mov (.t 3)),
      .op (some 57) (.bin .add (.t 56) (.c (.n .i64 1))),
      .op (some 3) (.mov (.t 57))]))
def c_spec_LetterOk_2 : C2 :=
    .seq (.seq (.reg .reg [.op (some 65) (.fad 0 (.t 1)),
      .op (some 66) (.load 1 false (.t 65))])
    (.block 2 (.seq (.reg .reg [.op (some 68) (.bin .eql (.t 66) (.c (.n .i64 1))),
      .op (some 67) (.mov (.t 68))])
    (.cond (.t 67) (.seq (.reg .reg [.op (some 69) (.fad 6 (.t 1)),
      .op (some 70) (.load 1 false (.t 69)),
      .op (some 71) (.len false (.t 70)),
      .op (some 72) (.bin .eql (.t 71) (.c (.n .i64 0))),
      .op (some 73) (.mov (.t 72)),
      .br 73 true [.op (some 74) (.fad 7 (.t 1)), .op (some 75) (.load 1 false (.t 74)), .op (some 76) (.bin .eql (.t 75) (.c (.n .i64 0)))] [74, 75, 76] 77 76,
      .op (some 78) (.mov (.t 77)),
      .br 78 true [.op (some 79) (.fad 8 (.t 1)), .op (some 80) (.load 1 false (.t 79)), .op (some 81) (.un .not (.t 80))] [79, 80, 81] 82 81,
      .op (some 2) (.mov (.t 82))])
    (.ret))
    (.seq (.reg .reg [.op (some 84) (.bin .eql (.t 66) (.c (.n .i64 2))),
      .op (some 83) (.mov (.t 84))])
    (.cond (.t 83) (.seq (.reg .reg [.op (some 85) (.fad 6 (.t 1)),
      .op (some 86) (.load 1 false (.t 85)),
      .op (some 87) (.len false (.t 86)),
      .op (some 88) (.bin .eql (.t 87) (.c (.n .i64 0))),
      .op (some 89) (.mov (.t 88)),
      .br 89 true [.op (some 90) (.fad 7 (.t 1)), .op (some 91) (.load 1 false (.t 90)), .op (some 92) (.bin .eql (.t 91) (.c (.n .i64 0)))] [90, 91, 92] 93 92,
      .op (some 94) (.mov (.t 93)),
      .br 94 true [.op (some 95) (.fad 4 (.t 1)), .op (some 96) (.load 1 false (.t 95)), .op (some 97) (.bin .eql (.t 96) (.c (.n .i64 0)))] [95, 96, 97] 98 97,
      .op (some 99) (.mov (.t 98)),
      .br 99 true [.op (some 100) (.fad 5 (.t 1)), .op (some 101) (.load 1 false (.t 100)), .op (some 102) (.bin .eql (.t 101) (.c (.n .i64 0)))] [100, 101, 102] 103 102,
      .op (some 2) (.mov (.t 103))])
    (.ret))
    (.seq (.reg .reg [.op (some 105) (.bin .eql (.t 66) (.c (.n .i64 3))),
      .op (some 104) (.mov (.t 105))])
    (.cond (.t 104) (.seq (.reg .reg [.op (some 106) (.fad 8 (.t 1)),
      .op (some 107) (.load 1 false (.t 106)),
      .op (some 108) (.un .not (.t 107)),
      .op (some 2) (.mov (.t 108))])
    (.ret))
    (.seq (.reg .reg [.op (some 110) (.bin .eql (.t 66) (.c (.n .i64 4))),
      .op (some 109) (.mov (.t 110))])
    (.cond (.t 109) (.seq (.reg .reg [.op (some 111) (.fad 6 (.t 1)),
      .op (some 112) (.load 1 false (.t 111)),
      .op (some 113) (.len false (.t 112)),
      .op (some 114) (.bin .eql (.t 113) (.c (.n .i64 0))),
      .op (some 115) (.mov (.t 114)),
      .br 115 true [.op (some 116) (.fad 7 (.t 1)), .op (some 117) (.load 1 false (.t 116)), .op (some 118) (.bin .eql (.t 117) (.c (.n .i64 0)))] [116, 117, 118] 119 118,
      .op (some 120) (.mov (.t 119)),
      .br 120 true [.op (some 121) (.fad 5 (.t 1)), .op (some 122) (.load 1 false (.t 121)), .op (some 123) (.bin .eql (.t 122) (.c (.n .i64 0)))] [121, 122, 123] 124 123,
      .op (some 2) (.mov (.t 124))])
    (.ret))
    (.skip)))))))))))
    (.seq (.reg .reg [.op (some 2) (.mov (.c (.b false)))])
    (.ret))
def τ_spec_LetterOk : Nat → Option GT := fun _ => none
def B_spec_LetterOk : F2 := ⟨125, 1, [.t 2], τ_spec_LetterOk,
    .seq (.reg .reg [.op (some 1) (.box (.t 0)),
      .op (some 2) (.mov (.c (.b false)))])
    (.seq (.seq (.reg .reg [.op (some 4) (.fad 1 (.t 1)),
      .op (some 5) (.load 1 false (.t 4)),
      .op (some 6) (.call (.c (.f 62 [])) [.t 5, .c (.n .i64 0), .c (.n .i64 2)]),
      .op (some 7) (.un .not (.t 6)),
      .op (some 8) (.mov (.t 7)),
      .br 8 false [.op (some 9) (.fad 2 (.t 1)), .op (some 10) (.load 1 false (.t 9)), .op (some 11) (.call (.c (.f 62 [])) [.t 10, .c (.n .i64 0), .c (.n .i64 2)]), .op (some 12) (.un .not (.t 11))] [9, 10, 11, 12] 13 12,
      .op (some 14) (.mov (.t 13)),
      .br 14 false [.op (some 15) (.fad 1 (.t 1)), .op (some 16) (.load 1 false (.t 15)), .op (some 17) (.fad 2 (.t 1)), .op (some 18) (.load 1 false (.t 17)), .op (some 19) (.bin .eql (.t 16) (.t 18))] [15, 16, 17, 18, 19] 20 19,
      .op (some 21) (.mov (.t 20)),
      .br 21 false [.op (some 22) (.fad 3 (.t 1)), .op (some 23) (.load 1 false (.t 22)), .op (some 24) (.call (.c (.f 62 [])) [.t 23, .c (.n .i64 1), .c (.n .i64 1000)]), .op (some 25) (.un .not (.t 24))] [22, 23, 24, 25] 26 25,
      .op (some 27) (.mov (.t 26)),
      .br 27 false [.op (some 28) (.fad 4 (.t 1)), .op (some 29) (.load 1 false (.t 28)), .op (some 30) (.call (.c (.f 62 [])) [.t 29, .c (.n .i64 0), .c (.n .i64 40)]), .op (some 31) (.un .not (.t 30))] [28, 29, 30, 31] 32 31,
      .op (some 33) (.mov (.t 32)),
      .br 33 false [.op (some 34) (.fad 5 (.t 1)), .op (some 35) (.load 1 false (.t 34)), .op (some 36) (.call (.c (.f 62 [])) [.t 35, .c (.n .i64 0), .c (.n .i64 1000)]), .op (some 37) (.un .not (.t 36))] [34, 35, 36, 37] 38 37,
      .op (some 39) (.mov (.t 38)),
      .br 39 false [.op (some 40) (.fad 7 (.t 1)), .op (some 41) (.load 1 false (.t 40)), .op (some 42) (.call (.c (.f 62 [])) [.t 41, .c (.n .i64 0), .c (.n .i64 40)]), .op (some 43) (.un .not (.t 42))] [40, 41, 42, 43] 44 43,
      .op (some 45) (.mov (.t 44)),
      .br 45 false [.op (some 46) (.fad 6 (.t 1)), .op (some 47) (.load 1 false (.t 46)), .op (some 48) (.len false (.t 47)), .op (some 49) (.bin .gtr (.t 48) (.c (.n .i64 4)))] [46, 47, 48, 49] 50 49])
    (.cond (.t 50) (.seq (.reg .reg [.op (some 2) (.mov (.c (.b false)))])
    (.ret))
    (.skip)))
    (.seq (.seq (.reg .reg [.op (some 3) (.mov (.c (.n .i64 0)))])
    (.block 0 (.loop [1, 3] [] [1] c_spec_LetterOk_1)))
    (c_spec_LetterOk_2)))⟩
theorem B_spec_LetterOk_ok : checkFn Try.prog Try.f87 B_spec_LetterOk.toA = true := by kernel_rfl
theorem B_spec_LetterOk_wf : B_spec_LetterOk.body.wf = true := by kernel_rfl
theorem okFn_spec_LetterOk : okFn Try.prog 87 = true := by kernel_rfl
def spec_LetterOk_l1s (r0 : Int → Option Bool) (k0_0 : Option Bool) (N : Nat) (v3_1 : Int) (pb1_1 : Int) (pb1_1_2 : Int) (pb1_1_3 : Int) (pb1_1_4 : Int) (pb1_1_5 : Int) (pb1_1_6 : Int) (pb1_1_7 : List DItem) (pb1_1_8 : Int) (pb1_1_9 : Bool) : Option Bool :=
  bif (ilt v3_1 ((pb1_1_7.length) : Int)) then
    let x1 : DItem := (pb1_1_7.getD (v3_1.toNat) dItem)
    chk (inb v3_1 (pb1_1_7.length)) <|
    chk (P_spec_l16Item N x1) <|
    bif (!(G_spec_l16Item N x1)) then
      some false
    else
      r0 (w64 (v3_1 + (1 : Int)))
  else
    k0_0
theorem spec_LetterOk_l1s_run (N : Nat) (C0 : Fr2 → Hp → Option Bool) (K0 : Option Nat → Fr2 → Hp → Option Bool) (v3_1 : Int) (pb1_1 : Int) (pb1_1_2 : Int) (pb1_1_3 : Int) (pb1_1_4 : Int) (pb1_1_5 : Int) (pb1_1_6 : Int) (pb1_1_7 : List DItem) (pb1_1_8 : Int) (pb1_1_9 : Bool) :
    rcode (O_spec_LetterOk N) τ_spec_LetterOk N fin_spec_LetterOk c_spec_LetterOk_1 [(1, .p 1 0 0), (3, .n .i64 v3_1)] ⟨2, [(1, .un 9 [[.n .i64 pb1_1, .n .i64 pb1_1_2, .n .i64 pb1_1_3, .n .i64 pb1_1_4, .n .i64 pb1_1_5, .n .i64 pb1_1_6, .q tItem pb1_1_7, .n .i64 pb1_1_8, .b pb1_1_9]])]⟩ (roundK [1, 3] [] [1] C0 K0) = spec_LetterOk_l1s (fun v3_1 => C0 [(1, .p 1 0 0), (3, .n .i64 v3_1)] ⟨2, [(1, .un 9 [[.n .i64 pb1_1, .n .i64 pb1_1_2, .n .i64 pb1_1_3, .n .i64 pb1_1_4, .n .i64 pb1_1_5, .n .i64 pb1_1_6, .q tItem pb1_1_7, .n .i64 pb1_1_8, .b pb1_1_9]])]⟩) (K0 (some 0) [(1, .p 1 0 0)] ⟨2, [(1, .un 9 [[.n .i64 pb1_1, .n .i64 pb1_1_2, .n .i64 pb1_1_3, .n .i64 pb1_1_4, .n .i64 pb1_1_5, .n .i64 pb1_1_6, .q tItem pb1_1_7, .n .i64 pb1_1_8, .b pb1_1_9]])]⟩) N v3_1 pb1_1 pb1_1_2 pb1_1_3 pb1_1_4 pb1_1_5 pb1_1_6 pb1_1_7 pb1_1_8 pb1_1_9 := by kernel_rfl
def spec_LetterOk_x1_0 (N : Nat) (pb1_1 : Int) (pb1_1_2 : Int) (pb1_1_3 : Int) (pb1_1_4 : Int) (pb1_1_5 : Int) (pb1_1_6 : Int) (pb1_1_7 : List DItem) (pb1_1_8 : Int) (pb1_1_9 : Bool) : Option Bool :=
  bif (ieq pb1_1 (1 : Int)) then
    some (((ieq ((pb1_1_7.length) : Int) (0 : Int)) && (ieq pb1_1_8 (0 : Int))) && (!pb1_1_9))
  else
    bif (ieq pb1_1 (2 : Int)) then
      some ((((ieq ((pb1_1_7.length) : Int) (0 : Int)) && (ieq pb1_1_8 (0 : Int))) && (ieq pb1_1_5 (0 : Int))) && (ieq pb1_1_6 (0 : Int)))
    else
      bif (ieq pb1_1 (3 : Int)) then
        some (!pb1_1_9)
      else
        bif (ieq pb1_1 (4 : Int)) then
          some (((ieq ((pb1_1_7.length) : Int) (0 : Int)) && (ieq pb1_1_8 (0 : Int))) && (ieq pb1_1_6 (0 : Int)))
        else
          some false
theorem spec_LetterOk_x1_0_run (N : Nat) (pb1_1 : Int) (pb1_1_2 : Int) (pb1_1_3 : Int) (pb1_1_4 : Int) (pb1_1_5 : Int) (pb1_1_6 : Int) (pb1_1_7 : List DItem) (pb1_1_8 : Int) (pb1_1_9 : Bool) :
    (blockK 0 (seqK' (fun fr H K => rcode (O_spec_LetterOk N) τ_spec_LetterOk N fin_spec_LetterOk c_spec_LetterOk_2 fr H K) (finK R_spec_LetterOk [.t 2]))) (some 0) [(1, .p 1 0 0)] ⟨2, [(1, .un 9 [[.n .i64 pb1_1, .n .i64 pb1_1_2, .n .i64 pb1_1_3, .n .i64 pb1_1_4, .n .i64 pb1_1_5, .n .i64 pb1_1_6, .q tItem pb1_1_7, .n .i64 pb1_1_8, .b pb1_1_9]])]⟩ = spec_LetterOk_x1_0 N pb1_1 pb1_1_2 pb1_1_3 pb1_1_4 pb1_1_5 pb1_1_6 pb1_1_7 pb1_1_8 pb1_1_9 := by kernel_rfl
def spec_LetterOk_l1 (k0_0 : Option Bool) (N : Nat) (pb1_1 : Int) (pb1_1_2 : Int) (pb1_1_3 : Int) (pb1_1_4 : Int) (pb1_1_5 : Int) (pb1_1_6 : Int) (pb1_1_7 : List DItem) (pb1_1_8 : Int) (pb1_1_9 : Bool) : Nat → Int → Option Bool
  | 0, _ => none
  | n + 1, v3_1 => spec_LetterOk_l1s (spec_LetterOk_l1 k0_0 N pb1_1 pb1_1_2 pb1_1_3 pb1_1_4 pb1_1_5 pb1_1_6 pb1_1_7 pb1_1_8 pb1_1_9 n) k0_0 N v3_1 pb1_1 pb1_1_2 pb1_1_3 pb1_1_4 pb1_1_5 pb1_1_6 pb1_1_7 pb1_1_8 pb1_1_9
def spec_LetterOk_h1 (N : Nat) (v3_1 : Int) (pb1_1 : Int) (pb1_1_2 : Int) (pb1_1_3 : Int) (pb1_1_4 : Int) (pb1_1_5 : Int) (pb1_1_6 : Int) (pb1_1_7 : List DItem) (pb1_1_8 : Int) (pb1_1_9 : Bool) : Option Bool :=
  spec_LetterOk_l1 (spec_LetterOk_x1_0 N pb1_1 pb1_1_2 pb1_1_3 pb1_1_4 pb1_1_5 pb1_1_6 pb1_1_7 pb1_1_8 pb1_1_9) N pb1_1 pb1_1_2 pb1_1_3 pb1_1_4 pb1_1_5 pb1_1_6 pb1_1_7 pb1_1_8 pb1_1_9 N v3_1
theorem spec_LetterOk_l1_run (N : Nat)  (K : Option Nat → Fr2 → Hp → Option Bool) (pb1_1 : Int) (pb1_1_2 : Int) (pb1_1_3 : Int) (pb1_1_4 : Int) (pb1_1_5 : Int) (pb1_1_6 : Int) (pb1_1_7 : List DItem) (pb1_1_8 : Int) (pb1_1_9 : Bool) : ∀ (n : Nat) (v3_1 : Int),
    rloop (fun fr H K => rcode (O_spec_LetterOk N) τ_spec_LetterOk N fin_spec_LetterOk c_spec_LetterOk_1 fr H K) [1, 3] [] [1] K n [(1, .p 1 0 0), (3, .n .i64 v3_1)] ⟨2, [(1, .un 9 [[.n .i64 pb1_1, .n .i64 pb1_1_2, .n .i64 pb1_1_3, .n .i64 pb1_1_4, .n .i64 pb1_1_5, .n .i64 pb1_1_6, .q tItem pb1_1_7, .n .i64 pb1_1_8, .b pb1_1_9]])]⟩ = spec_LetterOk_l1 (K (some 0) [(1, .p 1 0 0)] ⟨2, [(1, .un 9 [[.n .i64 pb1_1, .n .i64 pb1_1_2, .n .i64 pb1_1_3, .n .i64 pb1_1_4, .n .i64 pb1_1_5, .n .i64 pb1_1_6, .q tItem pb1_1_7, .n .i64 pb1_1_8, .b pb1_1_9]])]⟩) N pb1_1 pb1_1_2 pb1_1_3 pb1_1_4 pb1_1_5 pb1_1_6 pb1_1_7 pb1_1_8 pb1_1_9 n v3_1 := by
  intro n
  induction n with
  | zero => intro v3_1; kernel_rfl
  | succ n ih => intro v3_1; exact (spec_LetterOk_l1s_run N (rloop (fun fr H K => rcode (O_spec_LetterOk N) τ_spec_LetterOk N fin_spec_LetterOk c_spec_LetterOk_1 fr H K) [1, 3] [] [1] K n) K v3_1 pb1_1 pb1_1_2 pb1_1_3 pb1_1_4 pb1_1_5 pb1_1_6 pb1_1_7 pb1_1_8 pb1_1_9).trans (congrArg (fun r => spec_LetterOk_l1s r (K (some 0) [(1, .p 1 0 0)] ⟨2, [(1, .un 9 [[.n .i64 pb1_1, .n .i64 pb1_1_2, .n .i64 pb1_1_3, .n .i64 pb1_1_4, .n .i64 pb1_1_5, .n .i64 pb1_1_6, .q tItem pb1_1_7, .n .i64 pb1_1_8, .b pb1_1_9]])]⟩) N v3_1 pb1_1 pb1_1_2 pb1_1_3 pb1_1_4 pb1_1_5 pb1_1_6 pb1_1_7 pb1_1_8 pb1_1_9) (funext fun v3_1 => ih v3_1))
theorem spec_LetterOk_h1_run (N : Nat) (v3_1 : Int) (pb1_1 : Int) (pb1_1_2 : Int) (pb1_1_3 : Int) (pb1_1_4 : Int) (pb1_1_5 : Int) (pb1_1_6 : Int) (pb1_1_7 : List DItem) (pb1_1_8 : Int) (pb1_1_9 : Bool) : rloop (fun fr H K => rcode (O_spec_LetterOk N) τ_spec_LetterOk N fin_spec_LetterOk c_spec_LetterOk_1 fr H K) [1, 3] [] [1] (blockK 0 (seqK' (fun fr H K => rcode (O_spec_LetterOk N) τ_spec_LetterOk N fin_spec_LetterOk c_spec_LetterOk_2 fr H K) (finK R_spec_LetterOk [.t 2]))) N [(1, .p 1 0 0), (3, .n .i64 v3_1)] ⟨2, [(1, .un 9 [[.n .i64 pb1_1, .n .i64 pb1_1_2, .n .i64 pb1_1_3, .n .i64 pb1_1_4, .n .i64 pb1_1_5, .n .i64 pb1_1_6, .q tItem pb1_1_7, .n .i64 pb1_1_8, .b pb1_1_9]])]⟩ = spec_LetterOk_h1 N v3_1 pb1_1 pb1_1_2 pb1_1_3 pb1_1_4 pb1_1_5 pb1_1_6 pb1_1_7 pb1_1_8 pb1_1_9 :=
  ((spec_LetterOk_l1_run N (blockK 0 (seqK' (fun fr H K => rcode (O_spec_LetterOk N) τ_spec_LetterOk N fin_spec_LetterOk c_spec_LetterOk_2 fr H K) (finK R_spec_LetterOk [.t 2]))) pb1_1 pb1_1_2 pb1_1_3 pb1_1_4 pb1_1_5 pb1_1_6 pb1_1_7 pb1_1_8 pb1_1_9 N v3_1)).trans (congrArg (fun h => spec_LetterOk_l1 h N pb1_1 pb1_1_2 pb1_1_3 pb1_1_4 pb1_1_5 pb1_1_6 pb1_1_7 pb1_1_8 pb1_1_9 N v3_1) (spec_LetterOk_x1_0_run N pb1_1 pb1_1_2 pb1_1_3 pb1_1_4 pb1_1_5 pb1_1_6 pb1_1_7 pb1_1_8 pb1_1_9))
def F_spec_LetterOkR (N : Nat) (spec_LetterOk_h1 : Int → Int → Int → Int → Int → Int → Int → List DItem → Int → Bool → Option Bool) (a0 : DLetter) : Option Bool :=
  bif ((((((((!(G_spec_l1In a0.2.1 (0 : Int) (2 : Int))) || (!(G_spec_l1In a0.2.2.1 (0 : Int) (2 : Int)))) || (ieq a0.2.1 a0.2.2.1)) || (!(G_spec_l1In a0.2.2.2.1 (1 : Int) (1000 : Int)))) || (!(G_spec_l1In a0.2.2.2.2.1 (0 : Int) (40 : Int)))) || (!(G_spec_l1In a0.2.2.2.2.2.1 (0 : Int) (1000 : Int)))) || (!(G_spec_l1In a0.2.2.2.2.2.2.2.1 (0 : Int) (40 : Int)))) || (ilt (4 : Int) ((a0.2.2.2.2.2.2.1.length) : Int))) then
    some false
  else
    spec_LetterOk_h1 (0 : Int) a0.1 a0.2.1 a0.2.2.1 a0.2.2.2.1 a0.2.2.2.2.1 a0.2.2.2.2.2.1 a0.2.2.2.2.2.2.1 a0.2.2.2.2.2.2.2.1 a0.2.2.2.2.2.2.2.2
def F_spec_LetterOk (N : Nat) (a0 : DLetter) : Option Bool := F_spec_LetterOkR N (spec_LetterOk_h1 N) a0
theorem F_spec_LetterOk_raw (N : Nat) (a0 : DLetter) :
    runF (O_spec_LetterOk N) N B_spec_LetterOk R_spec_LetterOk (vals T_spec_LetterOk a0) = F_spec_LetterOkR N (fun v3_1 pb1_1 pb1_1_2 pb1_1_3 pb1_1_4 pb1_1_5 pb1_1_6 pb1_1_7 pb1_1_8 pb1_1_9 => rloop (fun fr H K => rcode (O_spec_LetterOk N) τ_spec_LetterOk N fin_spec_LetterOk c_spec_LetterOk_1 fr H K) [1, 3] [] [1] (blockK 0 (seqK' (fun fr H K => rcode (O_spec_LetterOk N) τ_spec_LetterOk N fin_spec_LetterOk c_spec_LetterOk_2 fr H K) (finK R_spec_LetterOk [.t 2]))) N [(1, .p 1 0 0), (3, .n .i64 v3_1)] ⟨2, [(1, .un 9 [[.n .i64 pb1_1, .n .i64 pb1_1_2, .n .i64 pb1_1_3, .n .i64 pb1_1_4, .n .i64 pb1_1_5, .n .i64 pb1_1_6, .q tItem pb1_1_7, .n .i64 pb1_1_8, .b pb1_1_9]])]⟩) a0 := by kernel_rfl
theorem F_spec_LetterOk_run (N : Nat) (a0 : DLetter) :
    runF (O_spec_LetterOk N) N B_spec_LetterOk R_spec_LetterOk (vals T_spec_LetterOk a0) = F_spec_LetterOk N a0 :=
  (F_spec_LetterOk_raw N a0).trans (congrArg (fun h => F_spec_LetterOkR N h a0) (funext fun v3_1 => funext fun pb1_1 => funext fun pb1_1_2 => funext fun pb1_1_3 => funext fun pb1_1_4 => funext fun pb1_1_5 => funext fun pb1_1_6 => funext fun pb1_1_7 => funext fun pb1_1_8 => funext fun pb1_1_9 => spec_LetterOk_h1_run N v3_1 pb1_1 pb1_1_2 pb1_1_3 pb1_1_4 pb1_1_5 pb1_1_6 pb1_1_7 pb1_1_8 pb1_1_9))
def P_spec_LetterOk (N : Nat) (a0 : DLetter) : Bool := lock (F_spec_LetterOk N a0).isSome
def G_spec_LetterOk (N : Nat) (a0 : DLetter) : Bool := lock ((F_spec_LetterOk N a0).getD false)
theorem FG_spec_LetterOk {N : Nat} (a0 : DLetter) (h : P_spec_LetterOk N a0 = true) : F_spec_LetterOk N a0 = some (G_spec_LetterOk N a0) := by unfold P_spec_LetterOk at h; unfold G_spec_LetterOk; rw [lock_eq] at h ⊢; exact some_of_isSome h
theorem PG_spec_LetterOk {N : Nat} {a0 : DLetter} {v : Bool} (h : F_spec_LetterOk N a0 = some v) : P_spec_LetterOk N a0 = true ∧ G_spec_LetterOk N a0 = v := by unfold P_spec_LetterOk G_spec_LetterOk; rw [h, lock_eq, lock_eq]; exact ⟨rfl, rfl⟩
def o_spec_LetterOk (N : Nat) : List V → Bool × V := mkO T_spec_LetterOk R_spec_LetterOk (fun (x : DLetter) => P_spec_LetterOk N x) (fun (x : DLetter) => G_spec_LetterOk N x)
theorem spec_LetterOk_entry (N : Nat) : Entry Try.prog 87 (o_spec_LetterOk N) := Entry.of fun (x : DLetter) h =>
  Pf.of_run hm Try.func87 okFn_spec_LetterOk B_spec_LetterOk_ok B_spec_LetterOk_wf (O_spec_LetterOk_ok N) rfl ((F_spec_LetterOk_run N x).trans (FG_spec_LetterOk x h))
/-! loop.example/g00526/spec.HouseOk -/
abbrev T_spec_HouseOk : List GT := [tHouse]
abbrev R_spec_HouseOk : List GT := [.b]
def fin_spec_HouseOk : Fr2 → Hp → Option Bool := finF R_spec_HouseOk [.t 2]
def O_spec_HouseOk (N : Nat) : Orac := orc [(15, o_spec_KeeperOk N), (87, o_spec_LetterOk N)] []
theorem O_spec_HouseOk_ok (N : Nat) : OrcOk Try.prog (O_spec_HouseOk N) := OrcOk.of ⟨spec_KeeperOk_entry N, spec_LetterOk_entry N, trivial⟩ trivial
def c_spec_HouseOk_1 : C2 :=
    .seq (.seq (.reg .reg [.op (some 36) (.mov (.t 4)),
      .op (some 37) (.fad 1 (.t 1)),
      .op (some 38) (.load 1 false (.t 37)),
      .op (some 39) (.len false (.t 38)),
      .op (some 40) (.bin .lss (.t 36) (.t 39))])
    (.cond (.t 40) (.skip)
    (.exit 2)))
    (.seq (.block 3 (.seq (.reg .reg [.op (some 43) (.fad 1 (.t 1)),
      .op (some 44) (.load 1 false (.t 43)),
      .op (some 45) (.mov (.t 4)),
      .op (some 46) (.iad 9 (.t 44) (.t 45)),
      .op (some 47) (.load 9 true (.t 46)),
      .op (some 48) (.call (.c (.f 87 [])) [.t 47]),
      .op (some 49) (.un .not (.t 48))])
    (.cond (.t 49) (.seq (.reg .reg [.op (some 2) (.mov (.c (.b false)))])
    (.ret))
    (.skip))))
    (.reg .reg [.op (some 41) (.mov (.t 4)),
      .op (some 42) (.bin .add (.t 41) (.c (.n .i64 1))),
      .op (some 4) (.mov (.t 42))]))
def c_spec_HouseOk_2 : C2 :=
    .seq (.seq (.reg .reg [.op (some 15) (.mov (.t 3)),
      .op (some 16) (.bin .lss (.t 15) (.c (.n .i64 3)))])
    (.cond (.t 16) (.skip)
    (.exit 0)))
    (.seq (.block 1 (.seq (.reg .reg [.op (some 19) (.fad 0 (.t 1)),
      .op (some 20) (.load 1 false (.t 19)),
      .op (some 21) (.mov (.t 3)),
      .op (some 22) (.iad 10 (.t 20) (.t 21)),
      .op (some 23) (.load 10 true (.t 22)),
      .op (some 24) (.call (.c (.f 15 [])) [.t 23]),
      .op (some 25) (.un .not (.t 24)),
      .op (some 26) (.mov (.t 25)),
      .br 26 false [.op (some 27) (.fad 0 (.t 1)), .op (some 28) (.load 1 false (.t 27)), .op (some 29) (.mov (.t 3)), .op (some 30) (.iad 10 (.t 28) (.t 29)), .op (some 31) (.fad 0 (.t 30)), .op (some 32) (.load 1 false (.t 31)), .op (some 33) (.mov (.t 3)), .op (some 34) (.bin .neq (.t 32) (.t 33))] [27, 28, 29, 30, 31, 32, 33, 34] 35 34])
    (.cond (.t 35) (.seq (.reg .reg [.op (some 2) (.mov (.c (.b false)))])
    (.ret))
    (.skip))))
    (.reg .reg [.op (some 17) (.mov (.t 3)),
      .op (some 18) (.bin .add (.t 17) (.c (.n .i64 1))),
      .op (some 3) (.mov (.t 18))]))
def c_spec_HouseOk_3 : C2 :=
    .seq (.reg .reg [.op (some 2) (.mov (.c (.b true)))])
    (.ret)
def c_spec_HouseOk_4 : C2 :=
    .seq (.seq (.reg .reg [.op (some 4) (.mov (.c (.n .i64 0)))])
    (.block 2 (.loop [1, 4] [] [] c_spec_HouseOk_1)))
    (c_spec_HouseOk_3)
def τ_spec_HouseOk : Nat → Option GT := fun _ => none
def B_spec_HouseOk : F2 := ⟨50, 1, [.t 2], τ_spec_HouseOk,
    .seq (.reg .reg [.op (some 1) (.box (.t 0)),
      .op (some 2) (.mov (.c (.b false)))])
    (.seq (.seq (.reg .reg [.op (some 5) (.fad 0 (.t 1)),
      .op (some 6) (.load 1 false (.t 5)),
      .op (some 7) (.len false (.t 6)),
      .op (some 8) (.bin .neq (.t 7) (.c (.n .i64 3))),
      .op (some 9) (.mov (.t 8)),
      .br 9 false [.op (some 10) (.fad 1 (.t 1)), .op (some 11) (.load 1 false (.t 10)), .op (some 12) (.len false (.t 11)), .op (some 13) (.bin .gtr (.t 12) (.c (.n .i64 40)))] [10, 11, 12, 13] 14 13])
    (.cond (.t 14) (.seq (.reg .reg [.op (some 2) (.mov (.c (.b false)))])
    (.ret))
    (.skip)))
    (.seq (.seq (.reg .reg [.op (some 3) (.mov (.c (.n .i64 0)))])
    (.block 0 (.loop [1, 3] [] [1] c_spec_HouseOk_2)))
    (c_spec_HouseOk_4)))⟩
theorem B_spec_HouseOk_ok : checkFn Try.prog Try.f41 B_spec_HouseOk.toA = true := by kernel_rfl
theorem B_spec_HouseOk_wf : B_spec_HouseOk.body.wf = true := by kernel_rfl
theorem okFn_spec_HouseOk : okFn Try.prog 41 = true := by kernel_rfl
def spec_HouseOk_l1s (r0 : Int → Option Bool) (k0_0 : Option Bool) (N : Nat) (v3_1 : Int) (pb1_1 : List DKeeper) (pb1_1_2 : List DLetter) : Option Bool :=
  bif (ilt v3_1 (3 : Int)) then
    let x2 : DKeeper := (pb1_1.getD (v3_1.toNat) dKeeper)
    let x3 : DKeeper := (pb1_1.getD (v3_1.toNat) dKeeper)
    chk (inb v3_1 (pb1_1.length)) <|
    chk (P_spec_KeeperOk N x2) <|
    chk ((inb v3_1 (pb1_1.length)) || (!(G_spec_KeeperOk N x2))) <|
    bif ((!(G_spec_KeeperOk N x2)) || (!ieq x3.1 v3_1)) then
      some false
    else
      r0 (w64 (v3_1 + (1 : Int)))
  else
    k0_0
theorem spec_HouseOk_l1s_run (N : Nat) (C0 : Fr2 → Hp → Option Bool) (K0 : Option Nat → Fr2 → Hp → Option Bool) (v3_1 : Int) (pb1_1 : List DKeeper) (pb1_1_2 : List DLetter) :
    rcode (O_spec_HouseOk N) τ_spec_HouseOk N fin_spec_HouseOk c_spec_HouseOk_2 [(1, .p 1 0 0), (3, .n .i64 v3_1)] ⟨2, [(1, .un 2 [[.q tKeeper pb1_1, .q tLetter pb1_1_2]])]⟩ (roundK [1, 3] [] [1] C0 K0) = spec_HouseOk_l1s (fun v3_1 => C0 [(1, .p 1 0 0), (3, .n .i64 v3_1)] ⟨2, [(1, .un 2 [[.q tKeeper pb1_1, .q tLetter pb1_1_2]])]⟩) (K0 (some 0) [(1, .p 1 0 0)] ⟨2, [(1, .un 2 [[.q tKeeper pb1_1, .q tLetter pb1_1_2]])]⟩) N v3_1 pb1_1 pb1_1_2 := by kernel_rfl
def spec_HouseOk_l2s (r0 : Int → Option Bool) (k0_2 : Option Bool) (N : Nat) (v4_2 : Int) (pb1_1 : List DKeeper) (pb1_1_2 : List DLetter) : Option Bool :=
  bif (ilt v4_2 ((pb1_1_2.length) : Int)) then
    let x1 : DLetter := (pb1_1_2.getD (v4_2.toNat) dLetter)
    chk (inb v4_2 (pb1_1_2.length)) <|
    chk (P_spec_LetterOk N x1) <|
    bif (!(G_spec_LetterOk N x1)) then
      some false
    else
      r0 (w64 (v4_2 + (1 : Int)))
  else
    k0_2
theorem spec_HouseOk_l2s_run (N : Nat) (C0 : Fr2 → Hp → Option Bool) (K0 : Option Nat → Fr2 → Hp → Option Bool) (v4_2 : Int) (pb1_1 : List DKeeper) (pb1_1_2 : List DLetter) :
    rcode (O_spec_HouseOk N) τ_spec_HouseOk N fin_spec_HouseOk c_spec_HouseOk_1 [(1, .p 1 0 0), (4, .n .i64 v4_2)] ⟨2, [(1, .un 2 [[.q tKeeper pb1_1, .q tLetter pb1_1_2]])]⟩ (roundK [1, 4] [] [] C0 K0) = spec_HouseOk_l2s (fun v4_2 => C0 [(1, .p 1 0 0), (4, .n .i64 v4_2)] ⟨2, [(1, .un 2 [[.q tKeeper pb1_1, .q tLetter pb1_1_2]])]⟩) (K0 (some 2) [] ⟨1, []⟩) N v4_2 pb1_1 pb1_1_2 := by kernel_rfl
def spec_HouseOk_x2_2 (N : Nat) : Option Bool :=
  some true
theorem spec_HouseOk_x2_2_run (N : Nat)  :
    (blockK 2 (seqK' (fun fr H K => rcode (O_spec_HouseOk N) τ_spec_HouseOk N fin_spec_HouseOk c_spec_HouseOk_3 fr H K) (finK R_spec_HouseOk [.t 2]))) (some 2) [] ⟨1, []⟩ = spec_HouseOk_x2_2 N := by kernel_rfl
def spec_HouseOk_l2 (k0_2 : Option Bool) (N : Nat) (pb1_1 : List DKeeper) (pb1_1_2 : List DLetter) : Nat → Int → Option Bool
  | 0, _ => none
  | n + 1, v4_2 => spec_HouseOk_l2s (spec_HouseOk_l2 k0_2 N pb1_1 pb1_1_2 n) k0_2 N v4_2 pb1_1 pb1_1_2
def spec_HouseOk_h2 (N : Nat) (v4_2 : Int) (pb1_1 : List DKeeper) (pb1_1_2 : List DLetter) : Option Bool :=
  spec_HouseOk_l2 (spec_HouseOk_x2_2 N) N pb1_1 pb1_1_2 N v4_2
theorem spec_HouseOk_l2_run (N : Nat)  (K : Option Nat → Fr2 → Hp → Option Bool) (pb1_1 : List DKeeper) (pb1_1_2 : List DLetter) : ∀ (n : Nat) (v4_2 : Int),
    rloop (fun fr H K => rcode (O_spec_HouseOk N) τ_spec_HouseOk N fin_spec_HouseOk c_spec_HouseOk_1 fr H K) [1, 4] [] [] K n [(1, .p 1 0 0), (4, .n .i64 v4_2)] ⟨2, [(1, .un 2 [[.q tKeeper pb1_1, .q tLetter pb1_1_2]])]⟩ = spec_HouseOk_l2 (K (some 2) [] ⟨1, []⟩) N pb1_1 pb1_1_2 n v4_2 := by
  intro n
  induction n with
  | zero => intro v4_2; kernel_rfl
  | succ n ih => intro v4_2; exact (spec_HouseOk_l2s_run N (rloop (fun fr H K => rcode (O_spec_HouseOk N) τ_spec_HouseOk N fin_spec_HouseOk c_spec_HouseOk_1 fr H K) [1, 4] [] [] K n) K v4_2 pb1_1 pb1_1_2).trans (congrArg (fun r => spec_HouseOk_l2s r (K (some 2) [] ⟨1, []⟩) N v4_2 pb1_1 pb1_1_2) (funext fun v4_2 => ih v4_2))
theorem spec_HouseOk_h2_run (N : Nat) (v4_2 : Int) (pb1_1 : List DKeeper) (pb1_1_2 : List DLetter) : rloop (fun fr H K => rcode (O_spec_HouseOk N) τ_spec_HouseOk N fin_spec_HouseOk c_spec_HouseOk_1 fr H K) [1, 4] [] [] (blockK 2 (seqK' (fun fr H K => rcode (O_spec_HouseOk N) τ_spec_HouseOk N fin_spec_HouseOk c_spec_HouseOk_3 fr H K) (finK R_spec_HouseOk [.t 2]))) N [(1, .p 1 0 0), (4, .n .i64 v4_2)] ⟨2, [(1, .un 2 [[.q tKeeper pb1_1, .q tLetter pb1_1_2]])]⟩ = spec_HouseOk_h2 N v4_2 pb1_1 pb1_1_2 :=
  ((spec_HouseOk_l2_run N (blockK 2 (seqK' (fun fr H K => rcode (O_spec_HouseOk N) τ_spec_HouseOk N fin_spec_HouseOk c_spec_HouseOk_3 fr H K) (finK R_spec_HouseOk [.t 2]))) pb1_1 pb1_1_2 N v4_2)).trans (congrArg (fun h => spec_HouseOk_l2 h N pb1_1 pb1_1_2 N v4_2) (spec_HouseOk_x2_2_run N ))
def spec_HouseOk_x1_0R (N : Nat) (spec_HouseOk_h2 : Int → List DKeeper → List DLetter → Option Bool) (pb1_1 : List DKeeper) (pb1_1_2 : List DLetter) : Option Bool :=
  spec_HouseOk_h2 (0 : Int) pb1_1 pb1_1_2
def spec_HouseOk_x1_0 (N : Nat) (pb1_1 : List DKeeper) (pb1_1_2 : List DLetter) : Option Bool := spec_HouseOk_x1_0R N (spec_HouseOk_h2 N) pb1_1 pb1_1_2
theorem spec_HouseOk_x1_0_raw (N : Nat) (pb1_1 : List DKeeper) (pb1_1_2 : List DLetter) :
    (blockK 0 (seqK' (fun fr H K => rcode (O_spec_HouseOk N) τ_spec_HouseOk N fin_spec_HouseOk c_spec_HouseOk_4 fr H K) (finK R_spec_HouseOk [.t 2]))) (some 0) [(1, .p 1 0 0)] ⟨2, [(1, .un 2 [[.q tKeeper pb1_1, .q tLetter pb1_1_2]])]⟩ = spec_HouseOk_x1_0R N (fun v4_2 pb1_1 pb1_1_2 => rloop (fun fr H K => rcode (O_spec_HouseOk N) τ_spec_HouseOk N fin_spec_HouseOk c_spec_HouseOk_1 fr H K) [1, 4] [] [] (blockK 2 (seqK' (fun fr H K => rcode (O_spec_HouseOk N) τ_spec_HouseOk N fin_spec_HouseOk c_spec_HouseOk_3 fr H K) (finK R_spec_HouseOk [.t 2]))) N [(1, .p 1 0 0), (4, .n .i64 v4_2)] ⟨2, [(1, .un 2 [[.q tKeeper pb1_1, .q tLetter pb1_1_2]])]⟩) pb1_1 pb1_1_2 := by kernel_rfl
theorem spec_HouseOk_x1_0_run (N : Nat) (pb1_1 : List DKeeper) (pb1_1_2 : List DLetter) :
    (blockK 0 (seqK' (fun fr H K => rcode (O_spec_HouseOk N) τ_spec_HouseOk N fin_spec_HouseOk c_spec_HouseOk_4 fr H K) (finK R_spec_HouseOk [.t 2]))) (some 0) [(1, .p 1 0 0)] ⟨2, [(1, .un 2 [[.q tKeeper pb1_1, .q tLetter pb1_1_2]])]⟩ = spec_HouseOk_x1_0 N pb1_1 pb1_1_2 :=
  (spec_HouseOk_x1_0_raw N pb1_1 pb1_1_2).trans (congrArg (fun h => spec_HouseOk_x1_0R N h pb1_1 pb1_1_2) (funext fun v4_2 => funext fun pb1_1 => funext fun pb1_1_2 => spec_HouseOk_h2_run N v4_2 pb1_1 pb1_1_2))
def spec_HouseOk_l1 (k0_0 : Option Bool) (N : Nat) (pb1_1 : List DKeeper) (pb1_1_2 : List DLetter) : Nat → Int → Option Bool
  | 0, _ => none
  | n + 1, v3_1 => spec_HouseOk_l1s (spec_HouseOk_l1 k0_0 N pb1_1 pb1_1_2 n) k0_0 N v3_1 pb1_1 pb1_1_2
def spec_HouseOk_h1 (N : Nat) (v3_1 : Int) (pb1_1 : List DKeeper) (pb1_1_2 : List DLetter) : Option Bool :=
  spec_HouseOk_l1 (spec_HouseOk_x1_0 N pb1_1 pb1_1_2) N pb1_1 pb1_1_2 N v3_1
theorem spec_HouseOk_l1_run (N : Nat)  (K : Option Nat → Fr2 → Hp → Option Bool) (pb1_1 : List DKeeper) (pb1_1_2 : List DLetter) : ∀ (n : Nat) (v3_1 : Int),
    rloop (fun fr H K => rcode (O_spec_HouseOk N) τ_spec_HouseOk N fin_spec_HouseOk c_spec_HouseOk_2 fr H K) [1, 3] [] [1] K n [(1, .p 1 0 0), (3, .n .i64 v3_1)] ⟨2, [(1, .un 2 [[.q tKeeper pb1_1, .q tLetter pb1_1_2]])]⟩ = spec_HouseOk_l1 (K (some 0) [(1, .p 1 0 0)] ⟨2, [(1, .un 2 [[.q tKeeper pb1_1, .q tLetter pb1_1_2]])]⟩) N pb1_1 pb1_1_2 n v3_1 := by
  intro n
  induction n with
  | zero => intro v3_1; kernel_rfl
  | succ n ih => intro v3_1; exact (spec_HouseOk_l1s_run N (rloop (fun fr H K => rcode (O_spec_HouseOk N) τ_spec_HouseOk N fin_spec_HouseOk c_spec_HouseOk_2 fr H K) [1, 3] [] [1] K n) K v3_1 pb1_1 pb1_1_2).trans (congrArg (fun r => spec_HouseOk_l1s r (K (some 0) [(1, .p 1 0 0)] ⟨2, [(1, .un 2 [[.q tKeeper pb1_1, .q tLetter pb1_1_2]])]⟩) N v3_1 pb1_1 pb1_1_2) (funext fun v3_1 => ih v3_1))
theorem spec_HouseOk_h1_run (N : Nat) (v3_1 : Int) (pb1_1 : List DKeeper) (pb1_1_2 : List DLetter) : rloop (fun fr H K => rcode (O_spec_HouseOk N) τ_spec_HouseOk N fin_spec_HouseOk c_spec_HouseOk_2 fr H K) [1, 3] [] [1] (blockK 0 (seqK' (fun fr H K => rcode (O_spec_HouseOk N) τ_spec_HouseOk N fin_spec_HouseOk c_spec_HouseOk_4 fr H K) (finK R_spec_HouseOk [.t 2]))) N [(1, .p 1 0 0), (3, .n .i64 v3_1)] ⟨2, [(1, .un 2 [[.q tKeeper pb1_1, .q tLetter pb1_1_2]])]⟩ = spec_HouseOk_h1 N v3_1 pb1_1 pb1_1_2 :=
  ((spec_HouseOk_l1_run N (blockK 0 (seqK' (fun fr H K => rcode (O_spec_HouseOk N) τ_spec_HouseOk N fin_spec_HouseOk c_spec_HouseOk_4 fr H K) (finK R_spec_HouseOk [.t 2]))) pb1_1 pb1_1_2 N v3_1)).trans (congrArg (fun h => spec_HouseOk_l1 h N pb1_1 pb1_1_2 N v3_1) (spec_HouseOk_x1_0_run N pb1_1 pb1_1_2))
def F_spec_HouseOkR (N : Nat) (spec_HouseOk_h1 : Int → List DKeeper → List DLetter → Option Bool) (a0 : DHouse) : Option Bool :=
  bif ((!ieq ((a0.1.length) : Int) (3 : Int)) || (ilt (40 : Int) ((a0.2.length) : Int))) then
    some false
  else
    spec_HouseOk_h1 (0 : Int) a0.1 a0.2
def F_spec_HouseOk (N : Nat) (a0 : DHouse) : Option Bool := F_spec_HouseOkR N (spec_HouseOk_h1 N) a0
theorem F_spec_HouseOk_raw (N : Nat) (a0 : DHouse) :
    runF (O_spec_HouseOk N) N B_spec_HouseOk R_spec_HouseOk (vals T_spec_HouseOk a0) = F_spec_HouseOkR N (fun v3_1 pb1_1 pb1_1_2 => rloop (fun fr H K => rcode (O_spec_HouseOk N) τ_spec_HouseOk N fin_spec_HouseOk c_spec_HouseOk_2 fr H K) [1, 3] [] [1] (blockK 0 (seqK' (fun fr H K => rcode (O_spec_HouseOk N) τ_spec_HouseOk N fin_spec_HouseOk c_spec_HouseOk_4 fr H K) (finK R_spec_HouseOk [.t 2]))) N [(1, .p 1 0 0), (3, .n .i64 v3_1)] ⟨2, [(1, .un 2 [[.q tKeeper pb1_1, .q tLetter pb1_1_2]])]⟩) a0 := by kernel_rfl
theorem F_spec_HouseOk_run (N : Nat) (a0 : DHouse) :
    runF (O_spec_HouseOk N) N B_spec_HouseOk R_spec_HouseOk (vals T_spec_HouseOk a0) = F_spec_HouseOk N a0 :=
  (F_spec_HouseOk_raw N a0).trans (congrArg (fun h => F_spec_HouseOkR N h a0) (funext fun v3_1 => funext fun pb1_1 => funext fun pb1_1_2 => spec_HouseOk_h1_run N v3_1 pb1_1 pb1_1_2))
def P_spec_HouseOk (N : Nat) (a0 : DHouse) : Bool := lock (F_spec_HouseOk N a0).isSome
def G_spec_HouseOk (N : Nat) (a0 : DHouse) : Bool := lock ((F_spec_HouseOk N a0).getD false)
theorem FG_spec_HouseOk {N : Nat} (a0 : DHouse) (h : P_spec_HouseOk N a0 = true) : F_spec_HouseOk N a0 = some (G_spec_HouseOk N a0) := by unfold P_spec_HouseOk at h; unfold G_spec_HouseOk; rw [lock_eq] at h ⊢; exact some_of_isSome h
theorem PG_spec_HouseOk {N : Nat} {a0 : DHouse} {v : Bool} (h : F_spec_HouseOk N a0 = some v) : P_spec_HouseOk N a0 = true ∧ G_spec_HouseOk N a0 = v := by unfold P_spec_HouseOk G_spec_HouseOk; rw [h, lock_eq, lock_eq]; exact ⟨rfl, rfl⟩
def o_spec_HouseOk (N : Nat) : List V → Bool × V := mkO T_spec_HouseOk R_spec_HouseOk (fun (x : DHouse) => P_spec_HouseOk N x) (fun (x : DHouse) => G_spec_HouseOk N x)
theorem spec_HouseOk_entry (N : Nat) : Entry Try.prog 41 (o_spec_HouseOk N) := Entry.of fun (x : DHouse) h =>
  Pf.of_run hm Try.func41 okFn_spec_HouseOk B_spec_HouseOk_ok B_spec_HouseOk_wf (O_spec_HouseOk_ok N) rfl ((F_spec_HouseOk_run N x).trans (FG_spec_HouseOk x h))
/-! loop.example/g00526/impl.size[loop.example/g00526/impl.Item] -/
abbrev T_impl_size_Item : List GT := [(.sl tItem)]
abbrev R_impl_size_Item : List GT := [(.i .i64)]
def fin_impl_size_Item : Fr2 → Hp → Option Int := finF R_impl_size_Item [.t 2]
def O_impl_size_Item (N : Nat) : Orac := orc [] []
theorem O_impl_size_Item_ok (N : Nat) : OrcOk Try.prog (O_impl_size_Item N) := OrcOk.of trivial trivial
def τ_impl_size_Item : Nat → Option GT := fun _ => none
def B_impl_size_Item : F2 := ⟨5, 1, [.t 2], τ_impl_size_Item,
    .seq (.reg .reg [.op (some 2) (.mov (.c (.n .i64 0)))])
    (.seq (.reg .reg [.op (some 3) (.mov (.t 0)),
      .op (some 4) (.len false (.t 3)),
      .op (some 2) (.mov (.t 4))])
    (.ret))⟩
theorem B_impl_size_Item_ok : checkFn Try.prog Try.f70 B_impl_size_Item.toA = true := by kernel_rfl
theorem B_impl_size_Item_wf : B_impl_size_Item.body.wf = true := by kernel_rfl
theorem okFn_impl_size_Item : okFn Try.prog 70 = true := by kernel_rfl
def F_impl_size_Item (N : Nat) (a0 : List DItem) : Option Int :=
  some ((a0.length) : Int)
theorem F_impl_size_Item_run (N : Nat) (a0 : List DItem) :
    runF (O_impl_size_Item N) N B_impl_size_Item R_impl_size_Item (vals T_impl_size_Item a0) = F_impl_size_Item N a0 := by kernel_rfl
def G_impl_size_Item (a0 : List DItem) : Int :=
  ((a0.length) : Int)
theorem FG_impl_size_Item (N : Nat) (a0 : List DItem) : F_impl_size_Item N a0 = some (G_impl_size_Item a0) := by
  first | rfl | (simp only [F_impl_size_Item, G_impl_size_Item, cond_some]; done) | (unfold F_impl_size_Item G_impl_size_Item; simp only [cond_some]; done)
def o_impl_size_Item : List V → Bool × V := mkO T_impl_size_Item R_impl_size_Item (fun (x : List DItem) => true) (fun (x : List DItem) => G_impl_size_Item x)
theorem impl_size_Item_entry : Entry Try.prog 70 o_impl_size_Item := Entry.of fun (x : List DItem) _ =>
  Pf.of_run hm Try.func70 okFn_impl_size_Item B_impl_size_Item_ok B_impl_size_Item_wf (O_impl_size_Item_ok 0) rfl ((F_impl_size_Item_run 0 x).trans (FG_impl_size_Item 0 x))
/-! loop.example/g00526/impl.within -/
abbrev T_impl_within : List GT := [(.i .i64), (.i .i64), (.i .i64)]
abbrev R_impl_within : List GT := [.b]
def fin_impl_within : Fr2 → Hp → Option Bool := finF R_impl_within [.t 6]
def O_impl_within (N : Nat) : Orac := orc [] []
theorem O_impl_within_ok (N : Nat) : OrcOk Try.prog (O_impl_within N) := OrcOk.of trivial trivial
def τ_impl_within : Nat → Option GT := fun _ => none
def B_impl_within : F2 := ⟨15, 3, [.t 6], τ_impl_within,
    .seq (.reg .reg [.op (some 6) (.mov (.c (.b false)))])
    (.seq (.reg .reg [.op (some 7) (.mov (.t 0)),
      .op (some 8) (.mov (.t 1)),
      .op (some 9) (.bin .geq (.t 7) (.t 8)),
      .op (some 10) (.mov (.t 9)),
      .br 10 true [.op (some 11) (.mov (.t 0)), .op (some 12) (.mov (.t 2)), .op (some 13) (.bin .leq (.t 11) (.t 12))] [11, 12, 13] 14 13,
      .op (some 6) (.mov (.t 14))])
    (.ret))⟩
theorem B_impl_within_ok : checkFn Try.prog Try.f102 B_impl_within.toA = true := by kernel_rfl
theorem B_impl_within_wf : B_impl_within.body.wf = true := by kernel_rfl
theorem okFn_impl_within : okFn Try.prog 102 = true := by kernel_rfl
def F_impl_within (N : Nat) (a0 : Int) (a1 : Int) (a2 : Int) : Option Bool :=
  some ((ile a1 a0) && (ile a0 a2))
theorem F_impl_within_run (N : Nat) (a0 : Int) (a1 : Int) (a2 : Int) :
    runF (O_impl_within N) N B_impl_within R_impl_within (vals T_impl_within (a0, a1, a2)) = F_impl_within N a0 a1 a2 := by kernel_rfl
def G_impl_within (a0 : Int) (a1 : Int) (a2 : Int) : Bool :=
  ((ile a1 a0) && (ile a0 a2))
theorem FG_impl_within (N : Nat) (a0 : Int) (a1 : Int) (a2 : Int) : F_impl_within N a0 a1 a2 = some (G_impl_within a0 a1 a2) := by
  first | rfl | (simp only [F_impl_within, G_impl_within, cond_some]; done) | (unfold F_impl_within G_impl_within; simp only [cond_some]; done)
def o_impl_within : List V → Bool × V := mkO T_impl_within R_impl_within (fun (x : (Int × Int × Int)) => true) (fun (x : (Int × Int × Int)) => G_impl_within x.1 x.2.1 x.2.2)
theorem impl_within_entry : Entry Try.prog 102 o_impl_within := Entry.of fun (x : (Int × Int × Int)) _ =>
  Pf.of_run hm Try.func102 okFn_impl_within B_impl_within_ok B_impl_within_wf (O_impl_within_ok 0) rfl ((F_impl_within_run 0 x.1 x.2.1 x.2.2).trans (FG_impl_within 0 x.1 x.2.1 x.2.2))
def P_strings_Contains (s t : ByteArray) : Bool := decide (t = ⟨#[t[0]!]⟩)
def hasByte (s : ByteArray) (c : UInt8) : Bool := decide (0 ≤ Lib.indexByte s.data.toList c)
def G_strings_Contains (s t : ByteArray) : Bool := hasByte s (t[0]!)
def o_strings_Contains : List V → Bool × V := mkO [.s, .s] [.b] (fun (x : ByteArray × ByteArray) => P_strings_Contains x.1 x.2) (fun (x : ByteArray × ByteArray) => G_strings_Contains x.1 x.2)
theorem strings_Contains_entry : Entry Try.prog 133 o_strings_Contains := Entry.of fun (x : ByteArray × ByteArray) h => by
  obtain ⟨s, t⟩ := x
  have ht : t = ⟨#[t[0]!]⟩ := of_decide_eq_true h
  exact Pf.of_calls (by kernel_rfl) (cargs := [.string s, .string t]) (v := .bool (hasByte s (t[0]!))) (fun ρ cs h => by
    simp only [valsA, densHd, densTl, cellsA, mkValA, GT.isAgg, VRs, VR] at h
    obtain ⟨_, _, rfl, rfl, _, _, rfl, rfl, rfl⟩ := h
    rfl) (fun ρ => by simp only [encA, valA, cellsA, mkValA, GT.isAgg, VR]; rfl) fun w => by
      have k := Sh.Try.strings_Contains_one s (t[0]!) w
      rw [← ht] at k
      exact k.mono fun e w' ⟨h1, h2⟩ => by subst h2; exact ⟨h1, rfl, rfl, rfl, rfl⟩
/-! loop.example/g00526/impl.isItemText -/
abbrev T_impl_isItemText : List GT := [.s]
abbrev R_impl_isItemText : List GT := [.b]
def fin_impl_isItemText : Fr2 → Hp → Option Bool := finF R_impl_isItemText [.t 2]
def O_impl_isItemText (N : Nat) : Orac := orc [(133, o_strings_Contains)] []
theorem O_impl_isItemText_ok (N : Nat) : OrcOk Try.prog (O_impl_isItemText N) := OrcOk.of ⟨strings_Contains_entry, trivial⟩ trivial
def τ_impl_isItemText : Nat → Option GT := fun _ => none
def B_impl_isItemText : F2 := ⟨11, 1, [.t 2], τ_impl_isItemText,
    .seq (.reg .reg [.op (some 2) (.mov (.c (.b false)))])
    (.seq (.reg .reg [.op (some 3) (.mov (.t 0)),
      .op (some 4) (.len true (.t 3)),
      .op (some 5) (.bin .leq (.t 4) (.c (.n .i64 300))),
      .op (some 6) (.mov (.t 5)),
      .br 6 true [.op (some 7) (.mov (.t 0)), .op (some 8) (.call (.c (.f 133 [])) [.t 7, .c (.s ⟨#[10]⟩)]), .op (some 9) (.un .not (.t 8))] [7, 8, 9] 10 9,
      .op (some 2) (.mov (.t 10))])
    (.ret))⟩
theorem B_impl_isItemText_ok : checkFn Try.prog Try.f123 B_impl_isItemText.toA = true := by kernel_rfl
theorem B_impl_isItemText_wf : B_impl_isItemText.body.wf = true := by kernel_rfl
theorem okFn_impl_isItemText : okFn Try.prog 123 = true := by kernel_rfl
def F_impl_isItemText (N : Nat) (a0 : ByteArray) : Option Bool :=
  chk ((P_strings_Contains a0 (⟨#[10]⟩ : ByteArray)) || (!(ile (a0.size : Int) (300 : Int)))) <|
  some ((ile (a0.size : Int) (300 : Int)) && (!(G_strings_Contains a0 (⟨#[10]⟩ : ByteArray))))
theorem F_impl_isItemText_run (N : Nat) (a0 : ByteArray) :
    runF (O_impl_isItemText N) N B_impl_isItemText R_impl_isItemText (vals T_impl_isItemText a0) = F_impl_isItemText N a0 := by kernel_rfl
def P_impl_isItemText (N : Nat) (a0 : ByteArray) : Bool := lock (F_impl_isItemText N a0).isSome
def G_impl_isItemText (N : Nat) (a0 : ByteArray) : Bool := lock ((F_impl_isItemText N a0).getD false)
theorem FG_impl_isItemText {N : Nat} (a0 : ByteArray) (h : P_impl_isItemText N a0 = true) : F_impl_isItemText N a0 = some (G_impl_isItemText N a0) := by unfold P_impl_isItemText at h; unfold G_impl_isItemText; rw [lock_eq] at h ⊢; exact some_of_isSome h
theorem PG_impl_isItemText {N : Nat} {a0 : ByteArray} {v : Bool} (h : F_impl_isItemText N a0 = some v) : P_impl_isItemText N a0 = true ∧ G_impl_isItemText N a0 = v := by unfold P_impl_isItemText G_impl_isItemText; rw [h, lock_eq, lock_eq]; exact ⟨rfl, rfl⟩
def o_impl_isItemText (N : Nat) : List V → Bool × V := mkO T_impl_isItemText R_impl_isItemText (fun (x : ByteArray) => P_impl_isItemText N x) (fun (x : ByteArray) => G_impl_isItemText N x)
theorem impl_isItemText_entry (N : Nat) : Entry Try.prog 123 (o_impl_isItemText N) := Entry.of fun (x : ByteArray) h =>
  Pf.of_run hm Try.func123 okFn_impl_isItemText B_impl_isItemText_ok B_impl_isItemText_wf (O_impl_isItemText_ok N) rfl ((F_impl_isItemText_run N x).trans (FG_impl_isItemText x h))
/-! loop.example/g00526/impl.isItem -/
abbrev T_impl_isItem : List GT := [tItem]
abbrev R_impl_isItem : List GT := [.b]
def fin_impl_isItem : Fr2 → Hp → Option Bool := finF R_impl_isItem [.t 2]
def O_impl_isItem (N : Nat) : Orac := orc [(102, o_impl_within), (123, o_impl_isItemText N)] []
theorem O_impl_isItem_ok (N : Nat) : OrcOk Try.prog (O_impl_isItem N) := OrcOk.of ⟨impl_within_entry, impl_isItemText_entry N, trivial⟩ trivial
def τ_impl_isItem : Nat → Option GT := fun _ => none
def B_impl_isItem : F2 := ⟨11, 1, [.t 2], τ_impl_isItem,
    .seq (.reg .reg [.op (some 1) (.box (.t 0)),
      .op (some 2) (.mov (.c (.b false)))])
    (.seq (.reg .reg [.op (some 3) (.fad 0 (.t 1)),
      .op (some 4) (.load 1 false (.t 3)),
      .op (some 5) (.call (.c (.f 102 [])) [.t 4, .c (.n .i64 1), .c (.n .i64 1000)]),
      .op (some 6) (.mov (.t 5)),
      .br 6 true [.op (some 7) (.fad 1 (.t 1)), .op (some 8) (.load 1 false (.t 7)), .op (some 9) (.call (.c (.f 123 [])) [.t 8])] [7, 8, 9] 10 9,
      .op (some 2) (.mov (.t 10))])
    (.ret))⟩
theorem B_impl_isItem_ok : checkFn Try.prog Try.f101 B_impl_isItem.toA = true := by kernel_rfl
theorem B_impl_isItem_wf : B_impl_isItem.body.wf = true := by kernel_rfl
theorem okFn_impl_isItem : okFn Try.prog 101 = true := by kernel_rfl
def F_impl_isItem (N : Nat) (a0 : DItem) : Option Bool :=
  chk ((P_impl_isItemText N a0.2) || (!(G_impl_within a0.1 (1 : Int) (1000 : Int)))) <|
  some ((G_impl_within a0.1 (1 : Int) (1000 : Int)) && (G_impl_isItemText N a0.2))
theorem F_impl_isItem_run (N : Nat) (a0 : DItem) :
    runF (O_impl_isItem N) N B_impl_isItem R_impl_isItem (vals T_impl_isItem a0) = F_impl_isItem N a0 := by kernel_rfl
def P_impl_isItem (N : Nat) (a0 : DItem) : Bool := lock (F_impl_isItem N a0).isSome
def G_impl_isItem (N : Nat) (a0 : DItem) : Bool := lock ((F_impl_isItem N a0).getD false)
theorem FG_impl_isItem {N : Nat} (a0 : DItem) (h : P_impl_isItem N a0 = true) : F_impl_isItem N a0 = some (G_impl_isItem N a0) := by unfold P_impl_isItem at h; unfold G_impl_isItem; rw [lock_eq] at h ⊢; exact some_of_isSome h
theorem PG_impl_isItem {N : Nat} {a0 : DItem} {v : Bool} (h : F_impl_isItem N a0 = some v) : P_impl_isItem N a0 = true ∧ G_impl_isItem N a0 = v := by unfold P_impl_isItem G_impl_isItem; rw [h, lock_eq, lock_eq]; exact ⟨rfl, rfl⟩
def o_impl_isItem (N : Nat) : List V → Bool × V := mkO T_impl_isItem R_impl_isItem (fun (x : DItem) => P_impl_isItem N x) (fun (x : DItem) => G_impl_isItem N x)
theorem impl_isItem_entry (N : Nat) : Entry Try.prog 101 (o_impl_isItem N) := Entry.of fun (x : DItem) h =>
  Pf.of_run hm Try.func101 okFn_impl_isItem B_impl_isItem_ok B_impl_isItem_wf (O_impl_isItem_ok N) rfl ((F_impl_isItem_run N x).trans (FG_impl_isItem x h))
/-! loop.example/g00526/impl.areWithin$1 -/
abbrev T_impl_areWithin_c1 : List GT := [(.i .i64), (.pt (.i .i64)), (.pt (.i .i64))]
abbrev R_impl_areWithin_c1 : List GT := [.b]
def fin_impl_areWithin_c1 : Fr2 → Hp → Option Bool := finF R_impl_areWithin_c1 [.t 4]
def O_impl_areWithin_c1 (N : Nat) : Orac := orc [(102, o_impl_within)] []
theorem O_impl_areWithin_c1_ok (N : Nat) : OrcOk Try.prog (O_impl_areWithin_c1 N) := OrcOk.of ⟨impl_within_entry, trivial⟩ trivial
def τ_impl_areWithin_c1 : Nat → Option GT := fun _ => none
def B_impl_areWithin_c1 : F2 := ⟨10, 3, [.t 4], τ_impl_areWithin_c1,
    .seq (.reg .reg [.op (some 4) (.mov (.c (.b false)))])
    (.seq (.reg .reg [.op (some 5) (.mov (.t 0)),
      .op (some 6) (.load 1 false (.t 1)),
      .op (some 7) (.load 1 false (.t 2)),
      .op (some 8) (.call (.c (.f 102 [])) [.t 5, .t 6, .t 7]),
      .op (some 9) (.un .not (.t 8)),
      .op (some 4) (.mov (.t 9))])
    (.ret))⟩
theorem B_impl_areWithin_c1_ok : checkFn Try.prog Try.f125 B_impl_areWithin_c1.toA = true := by kernel_rfl
theorem B_impl_areWithin_c1_wf : B_impl_areWithin_c1.body.wf = true := by kernel_rfl
theorem okFn_impl_areWithin_c1 : okFn Try.prog 125 = true := by kernel_rfl
def F_impl_areWithin_c1 (N : Nat) (a0 : Int) (a1 : Int) (a2 : Int) : Option Bool :=
  some (!(G_impl_within a0 a1 a2))
theorem F_impl_areWithin_c1_run (N : Nat) (a0 : Int) (a1 : Int) (a2 : Int) :
    runF (O_impl_areWithin_c1 N) N B_impl_areWithin_c1 R_impl_areWithin_c1 (vals T_impl_areWithin_c1 (a0, a1, a2)) = F_impl_areWithin_c1 N a0 a1 a2 := by kernel_rfl
def G_impl_areWithin_c1 (a0 : Int) (a1 : Int) (a2 : Int) : Bool :=
  (!(G_impl_within a0 a1 a2))
theorem FG_impl_areWithin_c1 (N : Nat) (a0 : Int) (a1 : Int) (a2 : Int) : F_impl_areWithin_c1 N a0 a1 a2 = some (G_impl_areWithin_c1 a0 a1 a2) := by
  first | rfl | (simp only [F_impl_areWithin_c1, G_impl_areWithin_c1, cond_some]; done) | (unfold F_impl_areWithin_c1 G_impl_areWithin_c1; simp only [cond_some]; done)
def o_impl_areWithin_c1 : List V → Bool × V := mkO T_impl_areWithin_c1 R_impl_areWithin_c1 (fun (x : (Int × Int × Int)) => true) (fun (x : (Int × Int × Int)) => G_impl_areWithin_c1 x.1 x.2.1 x.2.2)
theorem impl_areWithin_c1_entry : Entry Try.prog 125 o_impl_areWithin_c1 := Entry.of fun (x : (Int × Int × Int)) _ =>
  Pf.of_run hm Try.func125 okFn_impl_areWithin_c1 B_impl_areWithin_c1_ok B_impl_areWithin_c1_wf (O_impl_areWithin_c1_ok 0) rfl ((F_impl_areWithin_c1_run 0 x.1 x.2.1 x.2.2).trans (FG_impl_areWithin_c1 0 x.1 x.2.1 x.2.2))
/-! slices.IndexFunc[[]int64,int64] -/
abbrev T_slices_IndexFunc_int64_impl_areWithin_c1 : List GT := [(.sl (.i .i64)), (.fn 125 [(.pt (.i .i64)), (.pt (.i .i64))])]
abbrev R_slices_IndexFunc_int64_impl_areWithin_c1 : List GT := [(.i .i64)]
def fin_slices_IndexFunc_int64_impl_areWithin_c1 : Fr2 → Hp → Option Int := finF R_slices_IndexFunc_int64_impl_areWithin_c1 [.t 4]
def O_slices_IndexFunc_int64_impl_areWithin_c1 (N : Nat) : Orac := orc [(125, o_impl_areWithin_c1)] []
theorem O_slices_IndexFunc_int64_impl_areWithin_c1_ok (N : Nat) : OrcOk Try.prog (O_slices_IndexFunc_int64_impl_areWithin_c1 N) := OrcOk.of ⟨impl_areWithin_c1_entry, trivial⟩ trivial
def c_slices_IndexFunc_int64_impl_areWithin_c1_1 : C2 :=
    .seq (.reg .reg [.op (some 9) (.bin .lss (.t 8) (.t 7))])
    (.seq (.cond (.t 9) (.skip)
    (.exit 0))
    (.seq (.block 1 (.seq (.reg .reg [.op (some 10) (.mov (.t 8)),
      .op (some 5) (.mov (.t 10))])
    (.seq (.reg .reg [.op (some 11) (.mov (.t 1)),
      .op (some 12) (.mov (.t 0)),
      .op (some 13) (.mov (.t 5)),
      .op (some 14) (.iad 1 (.t 12) (.t 13)),
      .op (some 15) (.load 1 false (.t 14)),
      .op (some 16) (.call (.t 11) [.t 15])])
    (.cond (.t 16) (.seq (.reg .reg [.op (some 17) (.mov (.t 5)),
      .op (some 4) (.mov (.t 17))])
    (.ret))
    (.skip)))))
    (.reg .reg [.op (some 18) (.bin .add (.t 8) (.c (.n .i64 1))),
      .op (some 8) (.mov (.t 18))])))
def c_slices_IndexFunc_int64_impl_areWithin_c1_2 : C2 :=
    .seq (.reg .reg [.op (some 4) (.mov (.c (.n .i64 (-1))))])
    (.ret)
def τ_slices_IndexFunc_int64_impl_areWithin_c1 : Nat → Option GT := fun _ => none
def B_slices_IndexFunc_int64_impl_areWithin_c1 : F2 := ⟨19, 2, [.t 4], τ_slices_IndexFunc_int64_impl_areWithin_c1,
    .seq (.reg .reg [.op (some 4) (.mov (.c (.n .i64 0)))])
    (.seq (.seq (.reg .reg [.op (some 6) (.mov (.t 0)),
      .op (some 7) (.len false (.t 6)),
      .op (some 8) (.mov (.c (.n .i64 0)))])
    (.block 0 (.loop [0, 1, 7, 8] [] [] c_slices_IndexFunc_int64_impl_areWithin_c1_1)))
    (c_slices_IndexFunc_int64_impl_areWithin_c1_2))⟩
theorem B_slices_IndexFunc_int64_impl_areWithin_c1_ok : checkFn Try.prog Try.f134 B_slices_IndexFunc_int64_impl_areWithin_c1.toA = true := by kernel_rfl
theorem B_slices_IndexFunc_int64_impl_areWithin_c1_wf : B_slices_IndexFunc_int64_impl_areWithin_c1.body.wf = true := by kernel_rfl
theorem okFn_slices_IndexFunc_int64_impl_areWithin_c1 : okFn Try.prog 134 = true := by kernel_rfl
def slices_IndexFunc_int64_impl_areWithin_c1_l1s (r0 : Int → Option Int) (k0_0 : Option Int) (N : Nat) (a0 : List Int) (pv1_1 : Int) (pv1_1_2 : Int) (pv7_1 : Int) (v8_1 : Int) : Option Int :=
  bif (ilt v8_1 pv7_1) then
    let x1 : Int := (a0.getD (v8_1.toNat) (0 : Int))
    chk (inb v8_1 (a0.length)) <|
    bif (G_impl_areWithin_c1 x1 pv1_1 pv1_1_2) then
      some v8_1
    else
      r0 (w64 (v8_1 + (1 : Int)))
  else
    k0_0
theorem slices_IndexFunc_int64_impl_areWithin_c1_l1s_run (N : Nat) (C0 : Fr2 → Hp → Option Int) (K0 : Option Nat → Fr2 → Hp → Option Int) (a0 : List Int) (pv1_1 : Int) (pv1_1_2 : Int) (pv7_1 : Int) (v8_1 : Int) :
    rcode (O_slices_IndexFunc_int64_impl_areWithin_c1 N) τ_slices_IndexFunc_int64_impl_areWithin_c1 N fin_slices_IndexFunc_int64_impl_areWithin_c1 c_slices_IndexFunc_int64_impl_areWithin_c1_1 [(0, .q (.i .i64) a0), (1, .f 125 [.pq (.i .i64) pv1_1 0, .pq (.i .i64) pv1_1_2 0]), (7, .n .i64 pv7_1), (8, .n .i64 v8_1)] ⟨1, []⟩ (roundK [0, 1, 7, 8] [] [] C0 K0) = slices_IndexFunc_int64_impl_areWithin_c1_l1s (fun v8_1 => C0 [(0, .q (.i .i64) a0), (1, .f 125 [.pq (.i .i64) pv1_1 0, .pq (.i .i64) pv1_1_2 0]), (7, .n .i64 pv7_1), (8, .n .i64 v8_1)] ⟨1, []⟩) (K0 (some 0) [] ⟨1, []⟩) N a0 pv1_1 pv1_1_2 pv7_1 v8_1 := by kernel_rfl
def slices_IndexFunc_int64_impl_areWithin_c1_x1_0 (N : Nat) : Option Int :=
  some (-1 : Int)
theorem slices_IndexFunc_int64_impl_areWithin_c1_x1_0_run (N : Nat)  :
    (blockK 0 (seqK' (fun fr H K => rcode (O_slices_IndexFunc_int64_impl_areWithin_c1 N) τ_slices_IndexFunc_int64_impl_areWithin_c1 N fin_slices_IndexFunc_int64_impl_areWithin_c1 c_slices_IndexFunc_int64_impl_areWithin_c1_2 fr H K) (finK R_slices_IndexFunc_int64_impl_areWithin_c1 [.t 4]))) (some 0) [] ⟨1, []⟩ = slices_IndexFunc_int64_impl_areWithin_c1_x1_0 N := by kernel_rfl
def slices_IndexFunc_int64_impl_areWithin_c1_l1 (k0_0 : Option Int) (N : Nat) (a0 : List Int) (pv1_1 : Int) (pv1_1_2 : Int) (pv7_1 : Int) : Nat → Int → Option Int
  | 0, _ => none
  | n + 1, v8_1 => slices_IndexFunc_int64_impl_areWithin_c1_l1s (slices_IndexFunc_int64_impl_areWithin_c1_l1 k0_0 N a0 pv1_1 pv1_1_2 pv7_1 n) k0_0 N a0 pv1_1 pv1_1_2 pv7_1 v8_1
def slices_IndexFunc_int64_impl_areWithin_c1_h1 (N : Nat) (a0 : List Int) (pv1_1 : Int) (pv1_1_2 : Int) (pv7_1 : Int) (v8_1 : Int) : Option Int :=
  slices_IndexFunc_int64_impl_areWithin_c1_l1 (slices_IndexFunc_int64_impl_areWithin_c1_x1_0 N) N a0 pv1_1 pv1_1_2 pv7_1 N v8_1
theorem slices_IndexFunc_int64_impl_areWithin_c1_l1_run (N : Nat)  (K : Option Nat → Fr2 → Hp → Option Int) (a0 : List Int) (pv1_1 : Int) (pv1_1_2 : Int) (pv7_1 : Int) : ∀ (n : Nat) (v8_1 : Int),
    rloop (fun fr H K => rcode (O_slices_IndexFunc_int64_impl_areWithin_c1 N) τ_slices_IndexFunc_int64_impl_areWithin_c1 N fin_slices_IndexFunc_int64_impl_areWithin_c1 c_slices_IndexFunc_int64_impl_areWithin_c1_1 fr H K) [0, 1, 7, 8] [] [] K n [(0, .q (.i .i64) a0), (1, .f 125 [.pq (.i .i64) pv1_1 0, .pq (.i .i64) pv1_1_2 0]), (7, .n .i64 pv7_1), (8, .n .i64 v8_1)] ⟨1, []⟩ = slices_IndexFunc_int64_impl_areWithin_c1_l1 (K (some 0) [] ⟨1, []⟩) N a0 pv1_1 pv1_1_2 pv7_1 n v8_1 := by
  intro n
  induction n with
  | zero => intro v8_1; kernel_rfl
  | succ n ih => intro v8_1; exact (slices_IndexFunc_int64_impl_areWithin_c1_l1s_run N (rloop (fun fr H K => rcode (O_slices_IndexFunc_int64_impl_areWithin_c1 N) τ_slices_IndexFunc_int64_impl_areWithin_c1 N fin_slices_IndexFunc_int64_impl_areWithin_c1 c_slices_IndexFunc_int64_impl_areWithin_c1_1 fr H K) [0, 1, 7, 8] [] [] K n) K a0 pv1_1 pv1_1_2 pv7_1 v8_1).trans (congrArg (fun r => slices_IndexFunc_int64_impl_areWithin_c1_l1s r (K (some 0) [] ⟨1, []⟩) N a0 pv1_1 pv1_1_2 pv7_1 v8_1) (funext fun v8_1 => ih v8_1))
theorem slices_IndexFunc_int64_impl_areWithin_c1_h1_run (N : Nat) (a0 : List Int) (pv1_1 : Int) (pv1_1_2 : Int) (pv7_1 : Int) (v8_1 : Int) : rloop (fun fr H K => rcode (O_slices_IndexFunc_int64_impl_areWithin_c1 N) τ_slices_IndexFunc_int64_impl_areWithin_c1 N fin_slices_IndexFunc_int64_impl_areWithin_c1 c_slices_IndexFunc_int64_impl_areWithin_c1_1 fr H K) [0, 1, 7, 8] [] [] (blockK 0 (seqK' (fun fr H K => rcode (O_slices_IndexFunc_int64_impl_areWithin_c1 N) τ_slices_IndexFunc_int64_impl_areWithin_c1 N fin_slices_IndexFunc_int64_impl_areWithin_c1 c_slices_IndexFunc_int64_impl_areWithin_c1_2 fr H K) (finK R_slices_IndexFunc_int64_impl_areWithin_c1 [.t 4]))) N [(0, .q (.i .i64) a0), (1, .f 125 [.pq (.i .i64) pv1_1 0, .pq (.i .i64) pv1_1_2 0]), (7, .n .i64 pv7_1), (8, .n .i64 v8_1)] ⟨1, []⟩ = slices_IndexFunc_int64_impl_areWithin_c1_h1 N a0 pv1_1 pv1_1_2 pv7_1 v8_1 :=
  ((slices_IndexFunc_int64_impl_areWithin_c1_l1_run N (blockK 0 (seqK' (fun fr H K => rcode (O_slices_IndexFunc_int64_impl_areWithin_c1 N) τ_slices_IndexFunc_int64_impl_areWithin_c1 N fin_slices_IndexFunc_int64_impl_areWithin_c1 c_slices_IndexFunc_int64_impl_areWithin_c1_2 fr H K) (finK R_slices_IndexFunc_int64_impl_areWithin_c1 [.t 4]))) a0 pv1_1 pv1_1_2 pv7_1 N v8_1)).trans (congrArg (fun h => slices_IndexFunc_int64_impl_areWithin_c1_l1 h N a0 pv1_1 pv1_1_2 pv7_1 N v8_1) (slices_IndexFunc_int64_impl_areWithin_c1_x1_0_run N ))
def F_slices_IndexFunc_int64_impl_areWithin_c1R (N : Nat) (slices_IndexFunc_int64_impl_areWithin_c1_h1 : List Int → Int → Int → Int → Int → Option Int) (a0 : List Int) (a1 : (Int × Int)) : Option Int :=
  slices_IndexFunc_int64_impl_areWithin_c1_h1 a0 a1.1 a1.2 ((a0.length) : Int) (0 : Int)
def F_slices_IndexFunc_int64_impl_areWithin_c1 (N : Nat) (a0 : List Int) (a1 : (Int × Int)) : Option Int := F_slices_IndexFunc_int64_impl_areWithin_c1R N (slices_IndexFunc_int64_impl_areWithin_c1_h1 N) a0 a1
theorem F_slices_IndexFunc_int64_impl_areWithin_c1_raw (N : Nat) (a0 : List Int) (a1 : (Int × Int)) :
    runF (O_slices_IndexFunc_int64_impl_areWithin_c1 N) N B_slices_IndexFunc_int64_impl_areWithin_c1 R_slices_IndexFunc_int64_impl_areWithin_c1 (vals T_slices_IndexFunc_int64_impl_areWithin_c1 (a0, a1)) = F_slices_IndexFunc_int64_impl_areWithin_c1R N (fun a0 pv1_1 pv1_1_2 pv7_1 v8_1 => rloop (fun fr H K => rcode (O_slices_IndexFunc_int64_impl_areWithin_c1 N) τ_slices_IndexFunc_int64_impl_areWithin_c1 N fin_slices_IndexFunc_int64_impl_areWithin_c1 c_slices_IndexFunc_int64_impl_areWithin_c1_1 fr H K) [0, 1, 7, 8] [] [] (blockK 0 (seqK' (fun fr H K => rcode (O_slices_IndexFunc_int64_impl_areWithin_c1 N) τ_slices_IndexFunc_int64_impl_areWithin_c1 N fin_slices_IndexFunc_int64_impl_areWithin_c1 c_slices_IndexFunc_int64_impl_areWithin_c1_2 fr H K) (finK R_slices_IndexFunc_int64_impl_areWithin_c1 [.t 4]))) N [(0, .q (.i .i64) a0), (1, .f 125 [.pq (.i .i64) pv1_1 0, .pq (.i .i64) pv1_1_2 0]), (7, .n .i64 pv7_1), (8, .n .i64 v8_1)] ⟨1, []⟩) a0 a1 := by kernel_rfl
theorem F_slices_IndexFunc_int64_impl_areWithin_c1_run (N : Nat) (a0 : List Int) (a1 : (Int × Int)) :
    runF (O_slices_IndexFunc_int64_impl_areWithin_c1 N) N B_slices_IndexFunc_int64_impl_areWithin_c1 R_slices_IndexFunc_int64_impl_areWithin_c1 (vals T_slices_IndexFunc_int64_impl_areWithin_c1 (a0, a1)) = F_slices_IndexFunc_int64_impl_areWithin_c1 N a0 a1 :=
  (F_slices_IndexFunc_int64_impl_areWithin_c1_raw N a0 a1).trans (congrArg (fun h => F_slices_IndexFunc_int64_impl_areWithin_c1R N h a0 a1) (funext fun a0 => funext fun pv1_1 => funext fun pv1_1_2 => funext fun pv7_1 => funext fun v8_1 => slices_IndexFunc_int64_impl_areWithin_c1_h1_run N a0 pv1_1 pv1_1_2 pv7_1 v8_1))
def P_slices_IndexFunc_int64_impl_areWithin_c1 (N : Nat) (a0 : List Int) (a1 : (Int × Int)) : Bool := lock (F_slices_IndexFunc_int64_impl_areWithin_c1 N a0 a1).isSome
def G_slices_IndexFunc_int64_impl_areWithin_c1 (N : Nat) (a0 : List Int) (a1 : (Int × Int)) : Int := lock ((F_slices_IndexFunc_int64_impl_areWithin_c1 N a0 a1).getD (0 : Int))
theorem FG_slices_IndexFunc_int64_impl_areWithin_c1 {N : Nat} (a0 : List Int) (a1 : (Int × Int)) (h : P_slices_IndexFunc_int64_impl_areWithin_c1 N a0 a1 = true) : F_slices_IndexFunc_int64_impl_areWithin_c1 N a0 a1 = some (G_slices_IndexFunc_int64_impl_areWithin_c1 N a0 a1) := by unfold P_slices_IndexFunc_int64_impl_areWithin_c1 at h; unfold G_slices_IndexFunc_int64_impl_areWithin_c1; rw [lock_eq] at h ⊢; exact some_of_isSome h
theorem PG_slices_IndexFunc_int64_impl_areWithin_c1 {N : Nat} {a0 : List Int} {a1 : (Int × Int)} {v : Int} (h : F_slices_IndexFunc_int64_impl_areWithin_c1 N a0 a1 = some v) : P_slices_IndexFunc_int64_impl_areWithin_c1 N a0 a1 = true ∧ G_slices_IndexFunc_int64_impl_areWithin_c1 N a0 a1 = v := by unfold P_slices_IndexFunc_int64_impl_areWithin_c1 G_slices_IndexFunc_int64_impl_areWithin_c1; rw [h, lock_eq, lock_eq]; exact ⟨rfl, rfl⟩
def o_slices_IndexFunc_int64_impl_areWithin_c1 (N : Nat) : List V → Bool × V := mkO T_slices_IndexFunc_int64_impl_areWithin_c1 R_slices_IndexFunc_int64_impl_areWithin_c1 (fun (x : (List Int × (Int × Int))) => P_slices_IndexFunc_int64_impl_areWithin_c1 N x.1 x.2) (fun (x : (List Int × (Int × Int))) => G_slices_IndexFunc_int64_impl_areWithin_c1 N x.1 x.2)
theorem slices_IndexFunc_int64_impl_areWithin_c1_entry (N : Nat) : Entry Try.prog 134 (o_slices_IndexFunc_int64_impl_areWithin_c1 N) := Entry.of fun (x : (List Int × (Int × Int))) h =>
  Pf.of_run hm Try.func134 okFn_slices_IndexFunc_int64_impl_areWithin_c1 B_slices_IndexFunc_int64_impl_areWithin_c1_ok B_slices_IndexFunc_int64_impl_areWithin_c1_wf (O_slices_IndexFunc_int64_impl_areWithin_c1_ok N) rfl ((F_slices_IndexFunc_int64_impl_areWithin_c1_run N x.1 x.2).trans (FG_slices_IndexFunc_int64_impl_areWithin_c1 x.1 x.2 h))
/-! slices.ContainsFunc[[]int64,int64] -/
abbrev T_slices_ContainsFunc_int64_impl_areWithin_c1 : List GT := [(.sl (.i .i64)), (.fn 125 [(.pt (.i .i64)), (.pt (.i .i64))])]
abbrev R_slices_ContainsFunc_int64_impl_areWithin_c1 : List GT := [.b]
def fin_slices_ContainsFunc_int64_impl_areWithin_c1 : Fr2 → Hp → Option Bool := finF R_slices_ContainsFunc_int64_impl_areWithin_c1 [.t 4]
def O_slices_ContainsFunc_int64_impl_areWithin_c1 (N : Nat) : Orac := orc [(134, o_slices_IndexFunc_int64_impl_areWithin_c1 N)] []
theorem O_slices_ContainsFunc_int64_impl_areWithin_c1_ok (N : Nat) : OrcOk Try.prog (O_slices_ContainsFunc_int64_impl_areWithin_c1 N) := OrcOk.of ⟨slices_IndexFunc_int64_impl_areWithin_c1_entry N, trivial⟩ trivial
def τ_slices_ContainsFunc_int64_impl_areWithin_c1 : Nat → Option GT := fun _ => none
def B_slices_ContainsFunc_int64_impl_areWithin_c1 : F2 := ⟨9, 2, [.t 4], τ_slices_ContainsFunc_int64_impl_areWithin_c1,
    .seq (.reg .reg [.op (some 4) (.mov (.c (.b false)))])
    (.seq (.reg .reg [.op (some 5) (.mov (.t 0)),
      .op (some 6) (.mov (.t 1)),
      .op (some 7) (.call (.c (.f 134 [])) [.t 5, .t 6]),
      .op (some 8) (.bin .geq (.t 7) (.c (.n .i64 0))),
      .op (some 4) (.mov (.t 8))])
    (.ret))⟩
theorem B_slices_ContainsFunc_int64_impl_areWithin_c1_ok : checkFn Try.prog Try.f124 B_slices_ContainsFunc_int64_impl_areWithin_c1.toA = true := by kernel_rfl
theorem B_slices_ContainsFunc_int64_impl_areWithin_c1_wf : B_slices_ContainsFunc_int64_impl_areWithin_c1.body.wf = true := by kernel_rfl
theorem okFn_slices_ContainsFunc_int64_impl_areWithin_c1 : okFn Try.prog 124 = true := by kernel_rfl
def F_slices_ContainsFunc_int64_impl_areWithin_c1 (N : Nat) (a0 : List Int) (a1 : (Int × Int)) : Option Bool :=
  chk (P_slices_IndexFunc_int64_impl_areWithin_c1 N a0 (a1.1, a1.2)) <|
  some (ile (0 : Int) (G_slices_IndexFunc_int64_impl_areWithin_c1 N a0 (a1.1, a1.2)))
theorem F_slices_ContainsFunc_int64_impl_areWithin_c1_run (N : Nat) (a0 : List Int) (a1 : (Int × Int)) :
    runF (O_slices_ContainsFunc_int64_impl_areWithin_c1 N) N B_slices_ContainsFunc_int64_impl_areWithin_c1 R_slices_ContainsFunc_int64_impl_areWithin_c1 (vals T_slices_ContainsFunc_int64_impl_areWithin_c1 (a0, a1)) = F_slices_ContainsFunc_int64_impl_areWithin_c1 N a0 a1 := by kernel_rfl
def P_slices_ContainsFunc_int64_impl_areWithin_c1 (N : Nat) (a0 : List Int) (a1 : (Int × Int)) : Bool := lock (F_slices_ContainsFunc_int64_impl_areWithin_c1 N a0 a1).isSome
def G_slices_ContainsFunc_int64_impl_areWithin_c1 (N : Nat) (a0 : List Int) (a1 : (Int × Int)) : Bool := lock ((F_slices_ContainsFunc_int64_impl_areWithin_c1 N a0 a1).getD false)
theorem FG_slices_ContainsFunc_int64_impl_areWithin_c1 {N : Nat} (a0 : List Int) (a1 : (Int × Int)) (h : P_slices_ContainsFunc_int64_impl_areWithin_c1 N a0 a1 = true) : F_slices_ContainsFunc_int64_impl_areWithin_c1 N a0 a1 = some (G_slices_ContainsFunc_int64_impl_areWithin_c1 N a0 a1) := by unfold P_slices_ContainsFunc_int64_impl_areWithin_c1 at h; unfold G_slices_ContainsFunc_int64_impl_areWithin_c1; rw [lock_eq] at h ⊢; exact some_of_isSome h
theorem PG_slices_ContainsFunc_int64_impl_areWithin_c1 {N : Nat} {a0 : List Int} {a1 : (Int × Int)} {v : Bool} (h : F_slices_ContainsFunc_int64_impl_areWithin_c1 N a0 a1 = some v) : P_slices_ContainsFunc_int64_impl_areWithin_c1 N a0 a1 = true ∧ G_slices_ContainsFunc_int64_impl_areWithin_c1 N a0 a1 = v := by unfold P_slices_ContainsFunc_int64_impl_areWithin_c1 G_slices_ContainsFunc_int64_impl_areWithin_c1; rw [h, lock_eq, lock_eq]; exact ⟨rfl, rfl⟩
def o_slices_ContainsFunc_int64_impl_areWithin_c1 (N : Nat) : List V → Bool × V := mkO T_slices_ContainsFunc_int64_impl_areWithin_c1 R_slices_ContainsFunc_int64_impl_areWithin_c1 (fun (x : (List Int × (Int × Int))) => P_slices_ContainsFunc_int64_impl_areWithin_c1 N x.1 x.2) (fun (x : (List Int × (Int × Int))) => G_slices_ContainsFunc_int64_impl_areWithin_c1 N x.1 x.2)
theorem slices_ContainsFunc_int64_impl_areWithin_c1_entry (N : Nat) : Entry Try.prog 124 (o_slices_ContainsFunc_int64_impl_areWithin_c1 N) := Entry.of fun (x : (List Int × (Int × Int))) h =>
  Pf.of_run hm Try.func124 okFn_slices_ContainsFunc_int64_impl_areWithin_c1 B_slices_ContainsFunc_int64_impl_areWithin_c1_ok B_slices_ContainsFunc_int64_impl_areWithin_c1_wf (O_slices_ContainsFunc_int64_impl_areWithin_c1_ok N) rfl ((F_slices_ContainsFunc_int64_impl_areWithin_c1_run N x.1 x.2).trans (FG_slices_ContainsFunc_int64_impl_areWithin_c1 x.1 x.2 h))
/-! loop.example/g00526/impl.areWithin -/
abbrev T_impl_areWithin : List GT := [(.sl (.i .i64)), (.i .i64), (.i .i64), (.i .i64)]
abbrev R_impl_areWithin : List GT := [.b]
def fin_impl_areWithin : Fr2 → Hp → Option Bool := finF R_impl_areWithin [.t 8]
def O_impl_areWithin (N : Nat) : Orac := orc [(124, o_slices_ContainsFunc_int64_impl_areWithin_c1 N)] []
theorem O_impl_areWithin_ok (N : Nat) : OrcOk Try.prog (O_impl_areWithin N) := OrcOk.of ⟨slices_ContainsFunc_int64_impl_areWithin_c1_entry N, trivial⟩ trivial
def τ_impl_areWithin : Nat → Option GT := fun _ => none
def B_impl_areWithin : F2 := ⟨19, 4, [.t 8], τ_impl_areWithin,
    .seq (.reg .reg [.op (some 6) (.box (.t 2)),
      .op (some 7) (.box (.t 3)),
      .op (some 8) (.mov (.c (.b false)))])
    (.seq (.reg .reg [.op (some 9) (.mov (.t 0)),
      .op (some 10) (.len false (.t 9)),
      .op (some 11) (.mov (.t 1)),
      .op (some 12) (.bin .eql (.t 10) (.t 11)),
      .op (some 13) (.mov (.t 12)),
      .br 13 true [.op (some 14) (.mov (.t 0)), .op (some 15) (.mkf 125 [.t 6, .t 7]), .op (some 16) (.call (.c (.f 124 [])) [.t 14, .t 15]), .op (some 17) (.un .not (.t 16))] [14, 15, 16, 17] 18 17,
      .op (some 8) (.mov (.t 18))])
    (.ret))⟩
theorem B_impl_areWithin_ok : checkFn Try.prog Try.f103 B_impl_areWithin.toA = true := by kernel_rfl
theorem B_impl_areWithin_wf : B_impl_areWithin.body.wf = true := by kernel_rfl
theorem okFn_impl_areWithin : okFn Try.prog 103 = true := by kernel_rfl
def F_impl_areWithin (N : Nat) (a0 : List Int) (a1 : Int) (a2 : Int) (a3 : Int) : Option Bool :=
  chk ((P_slices_ContainsFunc_int64_impl_areWithin_c1 N a0 (a2, a3)) || (!(ieq ((a0.length) : Int) a1))) <|
  some ((ieq ((a0.length) : Int) a1) && (!(G_slices_ContainsFunc_int64_impl_areWithin_c1 N a0 (a2, a3))))
theorem F_impl_areWithin_run (N : Nat) (a0 : List Int) (a1 : Int) (a2 : Int) (a3 : Int) :
    runF (O_impl_areWithin N) N B_impl_areWithin R_impl_areWithin (vals T_impl_areWithin (a0, a1, a2, a3)) = F_impl_areWithin N a0 a1 a2 a3 := by kernel_rfl
def P_impl_areWithin (N : Nat) (a0 : List Int) (a1 : Int) (a2 : Int) (a3 : Int) : Bool := lock (F_impl_areWithin N a0 a1 a2 a3).isSome
def G_impl_areWithin (N : Nat) (a0 : List Int) (a1 : Int) (a2 : Int) (a3 : Int) : Bool := lock ((F_impl_areWithin N a0 a1 a2 a3).getD false)
theorem FG_impl_areWithin {N : Nat} (a0 : List Int) (a1 : Int) (a2 : Int) (a3 : Int) (h : P_impl_areWithin N a0 a1 a2 a3 = true) : F_impl_areWithin N a0 a1 a2 a3 = some (G_impl_areWithin N a0 a1 a2 a3) := by unfold P_impl_areWithin at h; unfold G_impl_areWithin; rw [lock_eq] at h ⊢; exact some_of_isSome h
theorem PG_impl_areWithin {N : Nat} {a0 : List Int} {a1 : Int} {a2 : Int} {a3 : Int} {v : Bool} (h : F_impl_areWithin N a0 a1 a2 a3 = some v) : P_impl_areWithin N a0 a1 a2 a3 = true ∧ G_impl_areWithin N a0 a1 a2 a3 = v := by unfold P_impl_areWithin G_impl_areWithin; rw [h, lock_eq, lock_eq]; exact ⟨rfl, rfl⟩
def o_impl_areWithin (N : Nat) : List V → Bool × V := mkO T_impl_areWithin R_impl_areWithin (fun (x : (List Int × Int × Int × Int)) => P_impl_areWithin N x.1 x.2.1 x.2.2.1 x.2.2.2) (fun (x : (List Int × Int × Int × Int)) => G_impl_areWithin N x.1 x.2.1 x.2.2.1 x.2.2.2)
theorem impl_areWithin_entry (N : Nat) : Entry Try.prog 103 (o_impl_areWithin N) := Entry.of fun (x : (List Int × Int × Int × Int)) h =>
  Pf.of_run hm Try.func103 okFn_impl_areWithin B_impl_areWithin_ok B_impl_areWithin_wf (O_impl_areWithin_ok N) rfl ((F_impl_areWithin_run N x.1 x.2.1 x.2.2.1 x.2.2.2).trans (FG_impl_areWithin x.1 x.2.1 x.2.2.1 x.2.2.2 h))
end
end Go.Proofs.Ytamnlngihccgiaa.AM
