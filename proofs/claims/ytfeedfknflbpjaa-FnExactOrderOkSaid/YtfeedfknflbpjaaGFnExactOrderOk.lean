/- The texts of the functions that the law FnExactOrderOk reaches, what their runs yield, and their contracts. Printed by a program. -/
import Derived.Test.YtfeedfknflbpjaaRh
import Derived.Test.YtfeedfknflbpjaaShContains
import Derived.Test.YtfeedfknflbpjaaProg
import Derived.KernelRfl
namespace Go.Proofs.Ytfeedfknflbpjaa.AM
open Go
set_option linter.all false
set_option maxRecDepth 100000
noncomputable section
theorem hm : Try.prog.follows .mixedOrders = true := by kernel_rfl
theorem cond_some {α : Type} (c : Bool) (a b : α) : (bif c then some a else some b) = some (bif c then a else b) := by cases c <;> rfl
theorem some_of_isSome {α : Type} {o : Option α} {d : α} (h : o.isSome = true) : o = some (o.getD d) := by cases o with | none => cases h | some _ => rfl

abbrev tItem : GT := (.st [(.i .i64), .s])
abbrev DItem : Type := (Int × ByteArray)
abbrev dItem : DItem := ((0 : Int), (⟨#[]⟩ : ByteArray))
abbrev tKeeper : GT := (.st [(.i .i64), (.i .i64), (.i .i64), (.sl tItem), (.i .i64), (.i .i64), (.i .i64), (.sl (.i .i64)), (.sl (.i .i64)), .b])
abbrev DKeeper : Type := (Int × Int × Int × List DItem × Int × Int × Int × List Int × List Int × Bool)
abbrev dKeeper : DKeeper := ((0 : Int), (0 : Int), (0 : Int), [], (0 : Int), (0 : Int), (0 : Int), [], [], false)
abbrev tBin : GT := (.st [.s, (.i .i64)])
abbrev DBin : Type := (ByteArray × Int)
abbrev dBin : DBin := ((⟨#[]⟩ : ByteArray), (0 : Int))
abbrev tCore : GT := (.st [(.i .i64), (.sl (.i .i64)), (.sl tBin), (.i .i64), (.i .i64)])
abbrev DCore : Type := (Int × List Int × List DBin × Int × Int)
abbrev dCore : DCore := ((0 : Int), [], [], (0 : Int), (0 : Int))
abbrev tLetter : GT := (.st [(.i .i64), (.i .i64), (.i .i64), (.i .i64), (.i .i64), (.i .i64), (.sl tItem), (.i .i64), .b])
abbrev DLetter : Type := (Int × Int × Int × Int × Int × Int × List DItem × Int × Bool)
abbrev dLetter : DLetter := ((0 : Int), (0 : Int), (0 : Int), (0 : Int), (0 : Int), (0 : Int), [], (0 : Int), false)
abbrev tOrder : GT := (.st [(.i .i64), (.i .i64), (.i .i64), .s, .s, (.i .i64), (.i .i64), (.sl (.i .i64)), .s])
abbrev DOrder : Type := (Int × Int × Int × ByteArray × ByteArray × Int × Int × List Int × ByteArray)
abbrev dOrder : DOrder := ((0 : Int), (0 : Int), (0 : Int), (⟨#[]⟩ : ByteArray), (⟨#[]⟩ : ByteArray), (0 : Int), (0 : Int), [], (⟨#[]⟩ : ByteArray))
abbrev tOp : GT := (.st [(.i .i64), (.i .i64), .s])
abbrev DOp : Type := (Int × Int × ByteArray)
abbrev dOp : DOp := ((0 : Int), (0 : Int), (⟨#[]⟩ : ByteArray))
abbrev tKey : GT := (.st [.s, .s, (.i .i64)])
abbrev DKey : Type := (ByteArray × ByteArray × Int)
abbrev dKey : DKey := ((⟨#[]⟩ : ByteArray), (⟨#[]⟩ : ByteArray), (0 : Int))
abbrev tCell : GT := (.st [tKey, (.i .i64), .b])
abbrev DCell : Type := (DKey × Int × Bool)
abbrev dCell : DCell := (dKey, (0 : Int), false)
abbrev tBarn : GT := (.st [(.sl tCell), (.sl (.sl tCell))])
abbrev DBarn : Type := (List DCell × List (List DCell))
abbrev dBarn : DBarn := ([], [])
abbrev tLore : GT := (.st [.s, (.sl .s)])
abbrev DLore : Type := (ByteArray × List ByteArray)
abbrev dLore : DLore := ((⟨#[]⟩ : ByteArray), [])
abbrev tReply : GT := (.st [(.i .i64), (.i .i64)])
abbrev DReply : Type := (Int × Int)
abbrev dReply : DReply := ((0 : Int), (0 : Int))
abbrev tSeen : GT := (.st [(.i .i64), tReply])
abbrev DSeen : Type := (Int × DReply)
abbrev dSeen : DSeen := ((0 : Int), dReply)
abbrev tBook : GT := (.st [tBarn, (.sl tLore), (.sl tSeen), (.i .i64)])
abbrev DBook : Type := (DBarn × List DLore × List DSeen × Int)
abbrev dBook : DBook := (dBarn, [], [], (0 : Int))
/-! loop.example/g00526/laws.szInt64S -/
abbrev T_laws_szInt64S : List GT := [(.sl (.i .i64)), (.i .i64)]
abbrev R_laws_szInt64S : List GT := [(.i .i64)]
def fin_laws_szInt64S : Fr2 → Hp → Option Int := finF R_laws_szInt64S [.t 4]
def O_laws_szInt64S (N : Nat) : Orac := orc [] []
theorem O_laws_szInt64S_ok (N : Nat) : OrcOk Try.prog (O_laws_szInt64S N) := OrcOk.of trivial trivial
def τ_laws_szInt64S : Nat → Option GT := fun _ => none
def B_laws_szInt64S : F2 := ⟨12, 2, [.t 4], τ_laws_szInt64S,
    .seq (.reg .reg [.op (some 4) (.mov (.c (.n .i64 0)))])
    (.seq (.reg .reg [.op (some 5) (.mov (.t 1)),
      .op (some 6) (.mov (.t 0)),
      .op (some 7) (.len false (.t 6)),
      .op (some 8) (.bin .sub (.t 5) (.t 7)),
      .op (some 1) (.mov (.t 8))])
    (.seq (.seq (.reg .reg [.op (some 9) (.mov (.t 1)),
      .op (some 10) (.bin .lss (.t 9) (.c (.n .i64 0)))])
    (.cond (.t 10) (.seq (.reg .reg [.op (some 4) (.mov (.c (.n .i64 (-1))))])
    (.ret))
    (.skip)))
    (.seq (.reg .reg [.op (some 11) (.mov (.t 1)),
      .op (some 4) (.mov (.t 11))])
    (.ret))))⟩
theorem B_laws_szInt64S_ok : checkFn Try.prog Try.f56 B_laws_szInt64S.toA = true := by kernel_rfl
theorem B_laws_szInt64S_wf : B_laws_szInt64S.body.wf = true := by kernel_rfl
theorem okFn_laws_szInt64S : okFn Try.prog 56 = true := by kernel_rfl
def F_laws_szInt64S (N : Nat) (a0 : List Int) (a1 : Int) : Option Int :=
  bif (ilt (w64 (a1 - ((a0.length) : Int))) (0 : Int)) then
    some (-1 : Int)
  else
    some (w64 (a1 - ((a0.length) : Int)))
theorem F_laws_szInt64S_run (N : Nat) (a0 : List Int) (a1 : Int) :
    runF (O_laws_szInt64S N) N B_laws_szInt64S R_laws_szInt64S (vals T_laws_szInt64S (a0, a1)) = F_laws_szInt64S N a0 a1 := by kernel_rfl
def G_laws_szInt64S (a0 : List Int) (a1 : Int) : Int :=
  bif (ilt (w64 (a1 - ((a0.length) : Int))) (0 : Int)) then
    (-1 : Int)
  else
    (w64 (a1 - ((a0.length) : Int)))
theorem FG_laws_szInt64S (N : Nat) (a0 : List Int) (a1 : Int) : F_laws_szInt64S N a0 a1 = some (G_laws_szInt64S a0 a1) := by
  first | rfl | (simp only [F_laws_szInt64S, G_laws_szInt64S, cond_some]; done) | (unfold F_laws_szInt64S G_laws_szInt64S; simp only [cond_some]; done)
def o_laws_szInt64S : List V → Bool × V := mkO T_laws_szInt64S R_laws_szInt64S (fun (x : (List Int × Int)) => true) (fun (x : (List Int × Int)) => G_laws_szInt64S x.1 x.2)
theorem laws_szInt64S_entry : Entry Try.prog 56 o_laws_szInt64S := Entry.of fun (x : (List Int × Int)) _ =>
  Pf.of_run hm Try.func56 okFn_laws_szInt64S B_laws_szInt64S_ok B_laws_szInt64S_wf (O_laws_szInt64S_ok 0) rfl ((F_laws_szInt64S_run 0 x.1 x.2).trans (FG_laws_szInt64S 0 x.1 x.2))
/-! loop.example/g00526/laws.szOrder -/
abbrev T_laws_szOrder : List GT := [tOrder, (.i .i64)]
abbrev R_laws_szOrder : List GT := [(.i .i64)]
def fin_laws_szOrder : Fr2 → Hp → Option Int := finF R_laws_szOrder [.t 4]
def O_laws_szOrder (N : Nat) : Orac := orc [(56, o_laws_szInt64S)] []
theorem O_laws_szOrder_ok (N : Nat) : OrcOk Try.prog (O_laws_szOrder N) := OrcOk.of ⟨laws_szInt64S_entry, trivial⟩ trivial
def τ_laws_szOrder : Nat → Option GT := fun _ => none
def B_laws_szOrder : F2 := ⟨33, 2, [.t 4], τ_laws_szOrder,
    .seq (.reg .reg [.op (some 2) (.box (.t 0)),
      .op (some 4) (.mov (.c (.n .i64 0)))])
    (.seq (.reg .reg [.op (some 5) (.mov (.t 1)),
      .op (some 6) (.fad 3 (.t 2)),
      .op (some 7) (.load 1 false (.t 6)),
      .op (some 8) (.len true (.t 7)),
      .op (some 9) (.bin .sub (.t 5) (.t 8)),
      .op (some 1) (.mov (.t 9))])
    (.seq (.seq (.reg .reg [.op (some 10) (.mov (.t 1)),
      .op (some 11) (.bin .lss (.t 10) (.c (.n .i64 0)))])
    (.cond (.t 11) (.seq (.reg .reg [.op (some 4) (.mov (.c (.n .i64 (-1))))])
    (.ret))
    (.skip)))
    (.seq (.reg .reg [.op (some 12) (.mov (.t 1)),
      .op (some 13) (.fad 4 (.t 2)),
      .op (some 14) (.load 1 false (.t 13)),
      .op (some 15) (.len true (.t 14)),
      .op (some 16) (.bin .sub (.t 12) (.t 15)),
      .op (some 1) (.mov (.t 16))])
    (.seq (.seq (.reg .reg [.op (some 17) (.mov (.t 1)),
      .op (some 18) (.bin .lss (.t 17) (.c (.n .i64 0)))])
    (.cond (.t 18) (.seq (.reg .reg [.op (some 4) (.mov (.c (.n .i64 (-1))))])
    (.ret))
    (.skip)))
    (.seq (.reg .reg [.op (some 19) (.fad 7 (.t 2)),
      .op (some 20) (.load 1 false (.t 19)),
      .op (some 21) (.mov (.t 1)),
      .op (some 22) (.call (.c (.f 56 [])) [.t 20, .t 21]),
      .op (some 1) (.mov (.t 22))])
    (.seq (.seq (.reg .reg [.op (some 23) (.mov (.t 1)),
      .op (some 24) (.bin .lss (.t 23) (.c (.n .i64 0)))])
    (.cond (.t 24) (.seq (.reg .reg [.op (some 4) (.mov (.c (.n .i64 (-1))))])
    (.ret))
    (.skip)))
    (.seq (.reg .reg [.op (some 25) (.mov (.t 1)),
      .op (some 26) (.fad 8 (.t 2)),
      .op (some 27) (.load 1 false (.t 26)),
      .op (some 28) (.len true (.t 27)),
      .op (some 29) (.bin .sub (.t 25) (.t 28)),
      .op (some 1) (.mov (.t 29))])
    (.seq (.seq (.reg .reg [.op (some 30) (.mov (.t 1)),
      .op (some 31) (.bin .lss (.t 30) (.c (.n .i64 0)))])
    (.cond (.t 31) (.seq (.reg .reg [.op (some 4) (.mov (.c (.n .i64 (-1))))])
    (.ret))
    (.skip)))
    (.seq (.reg .reg [.op (some 32) (.mov (.t 1)),
      .op (some 4) (.mov (.t 32))])
    (.ret))))))))))⟩
theorem B_laws_szOrder_ok : checkFn Try.prog Try.f33 B_laws_szOrder.toA = true := by kernel_rfl
theorem B_laws_szOrder_wf : B_laws_szOrder.body.wf = true := by kernel_rfl
theorem okFn_laws_szOrder : okFn Try.prog 33 = true := by kernel_rfl
def F_laws_szOrder (N : Nat) (a0 : DOrder) (a1 : Int) : Option Int :=
  bif (ilt (w64 (a1 - (a0.2.2.2.1.size : Int))) (0 : Int)) then
    some (-1 : Int)
  else
    bif (ilt (w64 ((w64 (a1 - (a0.2.2.2.1.size : Int))) - (a0.2.2.2.2.1.size : Int))) (0 : Int)) then
      some (-1 : Int)
    else
      bif (ilt (G_laws_szInt64S a0.2.2.2.2.2.2.2.1 (w64 ((w64 (a1 - (a0.2.2.2.1.size : Int))) - (a0.2.2.2.2.1.size : Int)))) (0 : Int)) then
        some (-1 : Int)
      else
        bif (ilt (w64 ((G_laws_szInt64S a0.2.2.2.2.2.2.2.1 (w64 ((w64 (a1 - (a0.2.2.2.1.size : Int))) - (a0.2.2.2.2.1.size : Int)))) - (a0.2.2.2.2.2.2.2.2.size : Int))) (0 : Int)) then
          some (-1 : Int)
        else
          some (w64 ((G_laws_szInt64S a0.2.2.2.2.2.2.2.1 (w64 ((w64 (a1 - (a0.2.2.2.1.size : Int))) - (a0.2.2.2.2.1.size : Int)))) - (a0.2.2.2.2.2.2.2.2.size : Int)))
theorem F_laws_szOrder_run (N : Nat) (a0 : DOrder) (a1 : Int) :
    runF (O_laws_szOrder N) N B_laws_szOrder R_laws_szOrder (vals T_laws_szOrder (a0, a1)) = F_laws_szOrder N a0 a1 := by kernel_rfl
def G_laws_szOrder (a0 : DOrder) (a1 : Int) : Int :=
  bif (ilt (w64 (a1 - (a0.2.2.2.1.size : Int))) (0 : Int)) then
    (-1 : Int)
  else
    bif (ilt (w64 ((w64 (a1 - (a0.2.2.2.1.size : Int))) - (a0.2.2.2.2.1.size : Int))) (0 : Int)) then
      (-1 : Int)
    else
      bif (ilt (G_laws_szInt64S a0.2.2.2.2.2.2.2.1 (w64 ((w64 (a1 - (a0.2.2.2.1.size : Int))) - (a0.2.2.2.2.1.size : Int)))) (0 : Int)) then
        (-1 : Int)
      else
        bif (ilt (w64 ((G_laws_szInt64S a0.2.2.2.2.2.2.2.1 (w64 ((w64 (a1 - (a0.2.2.2.1.size : Int))) - (a0.2.2.2.2.1.size : Int)))) - (a0.2.2.2.2.2.2.2.2.size : Int))) (0 : Int)) then
          (-1 : Int)
        else
          (w64 ((G_laws_szInt64S a0.2.2.2.2.2.2.2.1 (w64 ((w64 (a1 - (a0.2.2.2.1.size : Int))) - (a0.2.2.2.2.1.size : Int)))) - (a0.2.2.2.2.2.2.2.2.size : Int)))
theorem FG_laws_szOrder (N : Nat) (a0 : DOrder) (a1 : Int) : F_laws_szOrder N a0 a1 = some (G_laws_szOrder a0 a1) := by
  first | rfl | (simp only [F_laws_szOrder, G_laws_szOrder, cond_some]; done) | (unfold F_laws_szOrder G_laws_szOrder; simp only [cond_some]; done)
def o_laws_szOrder : List V → Bool × V := mkO T_laws_szOrder R_laws_szOrder (fun (x : (DOrder × Int)) => true) (fun (x : (DOrder × Int)) => G_laws_szOrder x.1 x.2)
theorem laws_szOrder_entry : Entry Try.prog 33 o_laws_szOrder := Entry.of fun (x : (DOrder × Int)) _ =>
  Pf.of_run hm Try.func33 okFn_laws_szOrder B_laws_szOrder_ok B_laws_szOrder_wf (O_laws_szOrder_ok 0) rfl ((F_laws_szOrder_run 0 x.1 x.2).trans (FG_laws_szOrder 0 x.1 x.2))
/-! loop.example/g00526/laws.toInt64S -/
abbrev T_laws_toInt64S : List GT := [(.sl (.i .i64))]
abbrev R_laws_toInt64S : List GT := [(.sl (.i .i64))]
def fin_laws_toInt64S : Fr2 → Hp → Option (List Int) := finF R_laws_toInt64S [.t 2]
def O_laws_toInt64S (N : Nat) : Orac := orc [] []
theorem O_laws_toInt64S_ok (N : Nat) : OrcOk Try.prog (O_laws_toInt64S N) := OrcOk.of trivial trivial
def c_laws_toInt64S_1 : C2 :=
    .seq (.seq (.reg .reg [.op (some 8) (.mov (.t 4)),
      .op (some 9) (.mov (.t 0)),
      .op (some 10) (.len false (.t 9)),
      .op (some 11) (.bin .lss (.t 8) (.t 10))])
    (.cond (.t 11) (.skip)
    (.exit 0)))
    (.seq (.block 1 (.reg .reg [.op (some 14) (.mov (.t 3)),
      .op (some 15) (.mov (.t 4)),
      .op (some 16) (.mov (.t 0)),
      .op (some 17) (.mov (.t 4)),
      .op (some 18) (.iad 1 (.t 16) (.t 17)),
      .op (some 19) (.load 1 false (.t 18)),
      .op (some 20) (.iad 1 (.t 14) (.t 15)),
      .op none (.stor 1 (.t 20) (.t 19))]))
    (.reg .reg [.op (some 12) (.mov (.t 4)),
      .op (some 13) (.bin .add (.t 12) (.c (.n .i64 1))),
      .op (some 4) (.mov (.t 13))]))
def c_laws_toInt64S_2 : C2 :=
    .seq (.reg .reg [.op (some 21) (.mov (.t 3)),
      .op (some 2) (.mov (.t 21))])
    (.ret)
def τ_laws_toInt64S : Nat → Option GT
  | 7 => some (.i .i64)
  | _ => none
def B_laws_toInt64S : F2 := ⟨22, 1, [.t 2], τ_laws_toInt64S,
    .seq (.reg .reg [.op (some 2) (.mov (.c (.l 0 0 0)))])
    (.seq (.reg .reg [.op (some 5) (.mov (.t 0)),
      .op (some 6) (.len false (.t 5)),
      .op (some 7) (.mks 8 [.n .i64 0] (.t 6)),
      .op (some 3) (.mov (.t 7))])
    (.seq (.seq (.reg .reg [.op (some 4) (.mov (.c (.n .i64 0)))])
    (.block 0 (.loop [0, 3, 4] [] [3] c_laws_toInt64S_1)))
    (c_laws_toInt64S_2)))⟩
theorem B_laws_toInt64S_ok : checkFn Try.prog Try.f61 B_laws_toInt64S.toA = true := by kernel_rfl
theorem B_laws_toInt64S_wf : B_laws_toInt64S.body.wf = true := by kernel_rfl
theorem okFn_laws_toInt64S : okFn Try.prog 61 = true := by kernel_rfl
def laws_toInt64S_l1s (r0 : Int → List Int → Option (List Int)) (k0_0 : List Int → Option (List Int)) (N : Nat) (a0 : List Int) (v4_1 : Int) (h1_1 : List Int) : Option (List Int) :=
  bif (ilt v4_1 ((a0.length) : Int)) then
    let x1 : Int := (a0.getD (v4_1.toNat) (0 : Int))
    let h1 : List Int := (h1_1.set (v4_1.toNat) x1)
    chk (inb v4_1 (a0.length)) <|
    chk (inb v4_1 (h1_1.length)) <|
    r0 (w64 (v4_1 + (1 : Int))) h1
  else
    k0_0 h1_1
theorem laws_toInt64S_l1s_run (N : Nat) (C0 : Fr2 → Hp → Option (List Int)) (K0 : Option Nat → Fr2 → Hp → Option (List Int)) (a0 : List Int) (v4_1 : Int) (h1_1 : List Int) :
    rcode (O_laws_toInt64S N) τ_laws_toInt64S N fin_laws_toInt64S c_laws_toInt64S_1 [(0, .q (.i .i64) a0), (3, .w 1), (4, .n .i64 v4_1)] ⟨2, [(1, .ty (.i .i64) h1_1)]⟩ (roundK [0, 3, 4] [] [3] C0 K0) = laws_toInt64S_l1s (fun v4_1 h1_1 => C0 [(0, .q (.i .i64) a0), (3, .w 1), (4, .n .i64 v4_1)] ⟨2, [(1, .ty (.i .i64) h1_1)]⟩) (fun eh1_1 => K0 (some 0) [(3, .w 1)] ⟨2, [(1, .ty (.i .i64) eh1_1)]⟩) N a0 v4_1 h1_1 := by kernel_rfl
def laws_toInt64S_x1_0 (N : Nat) (eh1_1 : List Int) : Option (List Int) :=
  some eh1_1
theorem laws_toInt64S_x1_0_run (N : Nat) (eh1_1 : List Int) :
    (blockK 0 (seqK' (fun fr H K => rcode (O_laws_toInt64S N) τ_laws_toInt64S N fin_laws_toInt64S c_laws_toInt64S_2 fr H K) (finK R_laws_toInt64S [.t 2]))) (some 0) [(3, .w 1)] ⟨2, [(1, .ty (.i .i64) eh1_1)]⟩ = laws_toInt64S_x1_0 N eh1_1 := by kernel_rfl
def laws_toInt64S_l1 (k0_0 : List Int → Option (List Int)) (N : Nat) (a0 : List Int) : Nat → Int → List Int → Option (List Int)
  | 0, _, _ => none
  | n + 1, v4_1, h1_1 => laws_toInt64S_l1s (laws_toInt64S_l1 k0_0 N a0 n) k0_0 N a0 v4_1 h1_1
def laws_toInt64S_h1 (N : Nat) (a0 : List Int) (v4_1 : Int) (h1_1 : List Int) : Option (List Int) :=
  laws_toInt64S_l1 (fun eh1_1 => laws_toInt64S_x1_0 N eh1_1) N a0 N v4_1 h1_1
theorem laws_toInt64S_l1_run (N : Nat)  (K : Option Nat → Fr2 → Hp → Option (List Int)) (a0 : List Int) : ∀ (n : Nat) (v4_1 : Int) (h1_1 : List Int),
    rloop (fun fr H K => rcode (O_laws_toInt64S N) τ_laws_toInt64S N fin_laws_toInt64S c_laws_toInt64S_1 fr H K) [0, 3, 4] [] [3] K n [(0, .q (.i .i64) a0), (3, .w 1), (4, .n .i64 v4_1)] ⟨2, [(1, .ty (.i .i64) h1_1)]⟩ = laws_toInt64S_l1 (fun eh1_1 => K (some 0) [(3, .w 1)] ⟨2, [(1, .ty (.i .i64) eh1_1)]⟩) N a0 n v4_1 h1_1 := by
  intro n
  induction n with
  | zero => intro v4_1 h1_1; kernel_rfl
  | succ n ih => intro v4_1 h1_1; exact (laws_toInt64S_l1s_run N (rloop (fun fr H K => rcode (O_laws_toInt64S N) τ_laws_toInt64S N fin_laws_toInt64S c_laws_toInt64S_1 fr H K) [0, 3, 4] [] [3] K n) K a0 v4_1 h1_1).trans (congrArg (fun r => laws_toInt64S_l1s r (fun eh1_1 => K (some 0) [(3, .w 1)] ⟨2, [(1, .ty (.i .i64) eh1_1)]⟩) N a0 v4_1 h1_1) (funext fun v4_1 => funext fun h1_1 => ih v4_1 h1_1))
theorem laws_toInt64S_h1_run (N : Nat) (a0 : List Int) (v4_1 : Int) (h1_1 : List Int) : rloop (fun fr H K => rcode (O_laws_toInt64S N) τ_laws_toInt64S N fin_laws_toInt64S c_laws_toInt64S_1 fr H K) [0, 3, 4] [] [3] (blockK 0 (seqK' (fun fr H K => rcode (O_laws_toInt64S N) τ_laws_toInt64S N fin_laws_toInt64S c_laws_toInt64S_2 fr H K) (finK R_laws_toInt64S [.t 2]))) N [(0, .q (.i .i64) a0), (3, .w 1), (4, .n .i64 v4_1)] ⟨2, [(1, .ty (.i .i64) h1_1)]⟩ = laws_toInt64S_h1 N a0 v4_1 h1_1 :=
  ((laws_toInt64S_l1_run N (blockK 0 (seqK' (fun fr H K => rcode (O_laws_toInt64S N) τ_laws_toInt64S N fin_laws_toInt64S c_laws_toInt64S_2 fr H K) (finK R_laws_toInt64S [.t 2]))) a0 N v4_1 h1_1)).trans (congrArg (fun h => laws_toInt64S_l1 h N a0 N v4_1 h1_1) (funext fun eh1_1 => laws_toInt64S_x1_0_run N eh1_1))
def F_laws_toInt64SR (N : Nat) (laws_toInt64S_h1 : List Int → Int → List Int → Option (List Int)) (a0 : List Int) : Option (List Int) :=
  chk (mkOk 8 ((a0.length) : Int)) <|
  laws_toInt64S_h1 a0 (0 : Int) (List.replicate (((a0.length) : Int).toNat) (0 : Int))
def F_laws_toInt64S (N : Nat) (a0 : List Int) : Option (List Int) := F_laws_toInt64SR N (laws_toInt64S_h1 N) a0
theorem F_laws_toInt64S_raw (N : Nat) (a0 : List Int) :
    runF (O_laws_toInt64S N) N B_laws_toInt64S R_laws_toInt64S (vals T_laws_toInt64S a0) = F_laws_toInt64SR N (fun a0 v4_1 h1_1 => rloop (fun fr H K => rcode (O_laws_toInt64S N) τ_laws_toInt64S N fin_laws_toInt64S c_laws_toInt64S_1 fr H K) [0, 3, 4] [] [3] (blockK 0 (seqK' (fun fr H K => rcode (O_laws_toInt64S N) τ_laws_toInt64S N fin_laws_toInt64S c_laws_toInt64S_2 fr H K) (finK R_laws_toInt64S [.t 2]))) N [(0, .q (.i .i64) a0), (3, .w 1), (4, .n .i64 v4_1)] ⟨2, [(1, .ty (.i .i64) h1_1)]⟩) a0 := by kernel_rfl
theorem F_laws_toInt64S_run (N : Nat) (a0 : List Int) :
    runF (O_laws_toInt64S N) N B_laws_toInt64S R_laws_toInt64S (vals T_laws_toInt64S a0) = F_laws_toInt64S N a0 :=
  (F_laws_toInt64S_raw N a0).trans (congrArg (fun h => F_laws_toInt64SR N h a0) (funext fun a0 => funext fun v4_1 => funext fun h1_1 => laws_toInt64S_h1_run N a0 v4_1 h1_1))
def P_laws_toInt64S (N : Nat) (a0 : List Int) : Bool := lock (F_laws_toInt64S N a0).isSome
def G_laws_toInt64S (N : Nat) (a0 : List Int) : (List Int) := lock ((F_laws_toInt64S N a0).getD [])
theorem FG_laws_toInt64S {N : Nat} (a0 : List Int) (h : P_laws_toInt64S N a0 = true) : F_laws_toInt64S N a0 = some (G_laws_toInt64S N a0) := by unfold P_laws_toInt64S at h; unfold G_laws_toInt64S; rw [lock_eq] at h ⊢; exact some_of_isSome h
theorem PG_laws_toInt64S {N : Nat} {a0 : List Int} {v : (List Int)} (h : F_laws_toInt64S N a0 = some v) : P_laws_toInt64S N a0 = true ∧ G_laws_toInt64S N a0 = v := by unfold P_laws_toInt64S G_laws_toInt64S; rw [h, lock_eq, lock_eq]; exact ⟨rfl, rfl⟩
def o_laws_toInt64S (N : Nat) : List V → Bool × V := mkO T_laws_toInt64S R_laws_toInt64S (fun (x : List Int) => P_laws_toInt64S N x) (fun (x : List Int) => G_laws_toInt64S N x)
theorem laws_toInt64S_entry (N : Nat) : Entry Try.prog 61 (o_laws_toInt64S N) := Entry.of fun (x : List Int) h =>
  Pf.of_run hm Try.func61 okFn_laws_toInt64S B_laws_toInt64S_ok B_laws_toInt64S_wf (O_laws_toInt64S_ok N) rfl ((F_laws_toInt64S_run N x).trans (FG_laws_toInt64S x h))
/-! loop.example/g00526/laws.toOrder -/
abbrev T_laws_toOrder : List GT := [tOrder]
abbrev R_laws_toOrder : List GT := [tOrder]
def fin_laws_toOrder : Fr2 → Hp → Option DOrder := finF R_laws_toOrder [.cell 2 9 true]
def O_laws_toOrder (N : Nat) : Orac := orc [(61, o_laws_toInt64S N)] []
theorem O_laws_toOrder_ok (N : Nat) : OrcOk Try.prog (O_laws_toOrder N) := OrcOk.of ⟨laws_toInt64S_entry N, trivial⟩ trivial
def τ_laws_toOrder : Nat → Option GT := fun _ => none
def B_laws_toOrder : F2 := ⟨33, 1, [.cell 2 9 true], τ_laws_toOrder,
    .seq (.reg .reg [.op (some 1) (.box (.t 0)),
      .op (some 2) (.aloc [.n .i64 0, .n .i64 0, .n .i64 0, .s ⟨#[]⟩, .s ⟨#[]⟩, .n .i64 0, .n .i64 0, .l 0 0 0, .s ⟨#[]⟩])])
    (.seq (.reg .reg [.op (some 3) (.aloc [.n .i64 0, .n .i64 0, .n .i64 0, .s ⟨#[]⟩, .s ⟨#[]⟩, .n .i64 0, .n .i64 0, .l 0 0 0, .s ⟨#[]⟩])])
    (.seq (.reg .reg [.op (some 4) (.fad 0 (.t 1)),
      .op (some 5) (.load 1 false (.t 4)),
      .op (some 6) (.fad 0 (.t 3)),
      .op none (.stor 1 (.t 6) (.t 5))])
    (.seq (.reg .reg [.op (some 7) (.fad 1 (.t 1)),
      .op (some 8) (.load 1 false (.t 7)),
      .op (some 9) (.fad 1 (.t 3)),
      .op none (.stor 1 (.t 9) (.t 8))])
    (.seq (.reg .reg [.op (some 10) (.fad 2 (.t 1)),
      .op (some 11) (.load 1 false (.t 10)),
      .op (some 12) (.fad 2 (.t 3)),
      .op none (.stor 1 (.t 12) (.t 11))])
    (.seq (.reg .reg [.op (some 13) (.fad 3 (.t 1)),
      .op (some 14) (.load 1 false (.t 13)),
      .op (some 15) (.fad 3 (.t 3)),
      .op none (.stor 1 (.t 15) (.t 14))])
    (.seq (.reg .reg [.op (some 16) (.fad 4 (.t 1)),
      .op (some 17) (.load 1 false (.t 16)),
      .op (some 18) (.fad 4 (.t 3)),
      .op none (.stor 1 (.t 18) (.t 17))])
    (.seq (.reg .reg [.op (some 19) (.fad 5 (.t 1)),
      .op (some 20) (.load 1 false (.t 19)),
      .op (some 21) (.fad 5 (.t 3)),
      .op none (.stor 1 (.t 21) (.t 20))])
    (.seq (.reg .reg [.op (some 22) (.fad 6 (.t 1)),
      .op (some 23) (.load 1 false (.t 22)),
      .op (some 24) (.fad 6 (.t 3)),
      .op none (.stor 1 (.t 24) (.t 23))])
    (.seq (.reg .reg [.op (some 25) (.fad 7 (.t 1)),
      .op (some 26) (.load 1 false (.t 25)),
      .op (some 27) (.call (.c (.f 61 [])) [.t 26]),
      .op (some 28) (.fad 7 (.t 3)),
      .op none (.stor 1 (.t 28) (.t 27))])
    (.seq (.reg .reg [.op (some 29) (.fad 8 (.t 1)),
      .op (some 30) (.load 1 false (.t 29)),
      .op (some 31) (.fad 8 (.t 3)),
      .op none (.stor 1 (.t 31) (.t 30))])
    (.seq (.reg .reg [.op (some 32) (.load 9 true (.t 3)),
      .op none (.stor 9 (.t 2) (.t 32))])
    (.ret))))))))))))⟩
theorem B_laws_toOrder_ok : checkFn Try.prog Try.f35 B_laws_toOrder.toA = true := by kernel_rfl
theorem B_laws_toOrder_wf : B_laws_toOrder.body.wf = true := by kernel_rfl
theorem okFn_laws_toOrder : okFn Try.prog 35 = true := by kernel_rfl
def F_laws_toOrder (N : Nat) (a0 : DOrder) : Option DOrder :=
  let r1 : List Int := (G_laws_toInt64S N a0.2.2.2.2.2.2.2.1)
  chk (P_laws_toInt64S N a0.2.2.2.2.2.2.2.1) <|
  some (a0.1, a0.2.1, a0.2.2.1, a0.2.2.2.1, a0.2.2.2.2.1, a0.2.2.2.2.2.1, a0.2.2.2.2.2.2.1, r1, a0.2.2.2.2.2.2.2.2)
theorem F_laws_toOrder_run (N : Nat) (a0 : DOrder) :
    runF (O_laws_toOrder N) N B_laws_toOrder R_laws_toOrder (vals T_laws_toOrder a0) = F_laws_toOrder N a0 := by kernel_rfl
def P_laws_toOrder (N : Nat) (a0 : DOrder) : Bool := lock (F_laws_toOrder N a0).isSome
def G_laws_toOrder (N : Nat) (a0 : DOrder) : DOrder := lock ((F_laws_toOrder N a0).getD dOrder)
theorem FG_laws_toOrder {N : Nat} (a0 : DOrder) (h : P_laws_toOrder N a0 = true) : F_laws_toOrder N a0 = some (G_laws_toOrder N a0) := by unfold P_laws_toOrder at h; unfold G_laws_toOrder; rw [lock_eq] at h ⊢; exact some_of_isSome h
theorem PG_laws_toOrder {N : Nat} {a0 : DOrder} {v : DOrder} (h : F_laws_toOrder N a0 = some v) : P_laws_toOrder N a0 = true ∧ G_laws_toOrder N a0 = v := by unfold P_laws_toOrder G_laws_toOrder; rw [h, lock_eq, lock_eq]; exact ⟨rfl, rfl⟩
def o_laws_toOrder (N : Nat) : List V → Bool × V := mkO T_laws_toOrder R_laws_toOrder (fun (x : DOrder) => P_laws_toOrder N x) (fun (x : DOrder) => G_laws_toOrder N x)
theorem laws_toOrder_entry (N : Nat) : Entry Try.prog 35 (o_laws_toOrder N) := Entry.of fun (x : DOrder) h =>
  Pf.of_run hm Try.func35 okFn_laws_toOrder B_laws_toOrder_ok B_laws_toOrder_wf (O_laws_toOrder_ok N) rfl ((F_laws_toOrder_run N x).trans (FG_laws_toOrder x h))
/-! loop.example/g00526/spec.l1In -/
abbrev T_spec_l1In : List GT := [(.i .i64), (.i .i64), (.i .i64)]
abbrev R_spec_l1In : List GT := [.b]
def fin_spec_l1In : Fr2 → Hp → Option Bool := finF R_spec_l1In [.t 6]
def O_spec_l1In (N : Nat) : Orac := orc [] []
theorem O_spec_l1In_ok (N : Nat) : OrcOk Try.prog (O_spec_l1In N) := OrcOk.of trivial trivial
def τ_spec_l1In : Nat → Option GT := fun _ => none
def B_spec_l1In : F2 := ⟨15, 3, [.t 6], τ_spec_l1In,
    .seq (.reg .reg [.op (some 6) (.mov (.c (.b false)))])
    (.seq (.reg .reg [.op (some 7) (.mov (.t 0)),
      .op (some 8) (.mov (.t 1)),
      .op (some 9) (.bin .geq (.t 7) (.t 8)),
      .op (some 10) (.mov (.t 9)),
      .br 10 true [.op (some 11) (.mov (.t 0)), .op (some 12) (.mov (.t 2)), .op (some 13) (.bin .leq (.t 11) (.t 12))] [11, 12, 13] 14 13,
      .op (some 6) (.mov (.t 14))])
    (.ret))⟩
theorem B_spec_l1In_ok : checkFn Try.prog Try.f48 B_spec_l1In.toA = true := by kernel_rfl
theorem B_spec_l1In_wf : B_spec_l1In.body.wf = true := by kernel_rfl
theorem okFn_spec_l1In : okFn Try.prog 48 = true := by kernel_rfl
def F_spec_l1In (N : Nat) (a0 : Int) (a1 : Int) (a2 : Int) : Option Bool :=
  some ((ile a1 a0) && (ile a0 a2))
theorem F_spec_l1In_run (N : Nat) (a0 : Int) (a1 : Int) (a2 : Int) :
    runF (O_spec_l1In N) N B_spec_l1In R_spec_l1In (vals T_spec_l1In (a0, a1, a2)) = F_spec_l1In N a0 a1 a2 := by kernel_rfl
def G_spec_l1In (a0 : Int) (a1 : Int) (a2 : Int) : Bool :=
  ((ile a1 a0) && (ile a0 a2))
theorem FG_spec_l1In (N : Nat) (a0 : Int) (a1 : Int) (a2 : Int) : F_spec_l1In N a0 a1 a2 = some (G_spec_l1In a0 a1 a2) := by
  first | rfl | (simp only [F_spec_l1In, G_spec_l1In, cond_some]; done) | (unfold F_spec_l1In G_spec_l1In; simp only [cond_some]; done)
def o_spec_l1In : List V → Bool × V := mkO T_spec_l1In R_spec_l1In (fun (x : (Int × Int × Int)) => true) (fun (x : (Int × Int × Int)) => G_spec_l1In x.1 x.2.1 x.2.2)
theorem spec_l1In_entry : Entry Try.prog 48 o_spec_l1In := Entry.of fun (x : (Int × Int × Int)) _ =>
  Pf.of_run hm Try.func48 okFn_spec_l1In B_spec_l1In_ok B_spec_l1In_wf (O_spec_l1In_ok 0) rfl ((F_spec_l1In_run 0 x.1 x.2.1 x.2.2).trans (FG_spec_l1In 0 x.1 x.2.1 x.2.2))
/-! loop.example/g00526/spec.NameOk -/
abbrev T_spec_NameOk : List GT := [.s]
abbrev R_spec_NameOk : List GT := [.b]
def fin_spec_NameOk : Fr2 → Hp → Option Bool := finF R_spec_NameOk [.t 2]
def O_spec_NameOk (N : Nat) : Orac := orc [(48, o_spec_l1In)] []
theorem O_spec_NameOk_ok (N : Nat) : OrcOk Try.prog (O_spec_NameOk N) := OrcOk.of ⟨spec_l1In_entry, trivial⟩ trivial
def c_spec_NameOk_1 : C2 :=
    .seq (.seq (.reg .reg [.op (some 4) (.mov (.t 3)),
      .op (some 5) (.mov (.t 0)),
      .op (some 6) (.len true (.t 5)),
      .op (some 7) (.bin .lss (.t 4) (.t 6))])
    (.cond (.t 7) (.skip)
    (.exit 0)))
    (.seq (.block 1 (.seq (.reg .reg [.op (some 10) (.mov (.t 0)),
      .op (some 11) (.mov (.t 3)),
      .op (some 12) (.idx (.t 10) (.t 11)),
      .op (some 13) (.bin .lss (.t 12) (.c (.n .u8 97))),
      .op (some 14) (.mov (.t 13)),
      .br 14 false [.op (some 15) (.mov (.t 0)), .op (some 16) (.mov (.t 3)), .op (some 17) (.idx (.t 15) (.t 16)), .op (some 18) (.bin .gtr (.t 17) (.c (.n .u8 122)))] [15, 16, 17, 18] 19 18])
    (.cond (.t 19) (.seq (.reg .reg [.op (some 2) (.mov (.c (.b false)))])
    (.ret))
    (.skip))))
    (.reg .reg [.op (some 8) (.mov (.t 3)),
      .op (some 9) (.bin .add (.t 8) (.c (.n .i64 1))),
      .op (some 3) (.mov (.t 9))]))
def c_spec_NameOk_2 : C2 :=
    .seq (.reg .reg [.op (some 20) (.mov (.t 0)),
      .op (some 21) (.len true (.t 20)),
      .op (some 22) (.call (.c (.f 48 [])) [.t 21, .c (.n .i64 1), .c (.n .i64 8)]),
      .op (some 2) (.mov (.t 22))])
    (.ret)
def τ_spec_NameOk : Nat → Option GT := fun _ => none
def B_spec_NameOk : F2 := ⟨23, 1, [.t 2], τ_spec_NameOk,
    .seq (.reg .reg [.op (some 2) (.mov (.c (.b false)))])
    (.seq (.seq (.reg .reg [.op (some 3) (.mov (.c (.n .i64 0)))])
    (.block 0 (.loop [0, 3] [] [0] c_spec_NameOk_1)))
    (c_spec_NameOk_2))⟩
theorem B_spec_NameOk_ok : checkFn Try.prog Try.f76 B_spec_NameOk.toA = true := by kernel_rfl
theorem B_spec_NameOk_wf : B_spec_NameOk.body.wf = true := by kernel_rfl
theorem okFn_spec_NameOk : okFn Try.prog 76 = true := by kernel_rfl
def spec_NameOk_l1s (r0 : Int → Option Bool) (k0_0 : Option Bool) (N : Nat) (a0 : ByteArray) (v3_1 : Int) : Option Bool :=
  bif (ilt v3_1 (a0.size : Int)) then
    chk (inb v3_1 a0.size) <|
    chk ((inb v3_1 a0.size) || (ilt ((a0[(v3_1.toNat)]!).toNat : Int) (97 : Int))) <|
    bif ((ilt ((a0[(v3_1.toNat)]!).toNat : Int) (97 : Int)) || (ilt (122 : Int) ((a0[(v3_1.toNat)]!).toNat : Int))) then
      some false
    else
      r0 (w64 (v3_1 + (1 : Int)))
  else
    k0_0
theorem spec_NameOk_l1s_run (N : Nat) (C0 : Fr2 → Hp → Option Bool) (K0 : Option Nat → Fr2 → Hp → Option Bool) (a0 : ByteArray) (v3_1 : Int) :
    rcode (O_spec_NameOk N) τ_spec_NameOk N fin_spec_NameOk c_spec_NameOk_1 [(0, .s a0), (3, .n .i64 v3_1)] ⟨1, []⟩ (roundK [0, 3] [] [0] C0 K0) = spec_NameOk_l1s (fun v3_1 => C0 [(0, .s a0), (3, .n .i64 v3_1)] ⟨1, []⟩) (K0 (some 0) [(0, .s a0)] ⟨1, []⟩) N a0 v3_1 := by kernel_rfl
def spec_NameOk_x1_0 (N : Nat) (a0 : ByteArray) : Option Bool :=
  some (G_spec_l1In (a0.size : Int) (1 : Int) (8 : Int))
theorem spec_NameOk_x1_0_run (N : Nat) (a0 : ByteArray) :
    (blockK 0 (seqK' (fun fr H K => rcode (O_spec_NameOk N) τ_spec_NameOk N fin_spec_NameOk c_spec_NameOk_2 fr H K) (finK R_spec_NameOk [.t 2]))) (some 0) [(0, .s a0)] ⟨1, []⟩ = spec_NameOk_x1_0 N a0 := by kernel_rfl
def spec_NameOk_l1 (k0_0 : Option Bool) (N : Nat) (a0 : ByteArray) : Nat → Int → Option Bool
  | 0, _ => none
  | n + 1, v3_1 => spec_NameOk_l1s (spec_NameOk_l1 k0_0 N a0 n) k0_0 N a0 v3_1
def spec_NameOk_h1 (N : Nat) (a0 : ByteArray) (v3_1 : Int) : Option Bool :=
  spec_NameOk_l1 (spec_NameOk_x1_0 N a0) N a0 N v3_1
theorem spec_NameOk_l1_run (N : Nat)  (K : Option Nat → Fr2 → Hp → Option Bool) (a0 : ByteArray) : ∀ (n : Nat) (v3_1 : Int),
    rloop (fun fr H K => rcode (O_spec_NameOk N) τ_spec_NameOk N fin_spec_NameOk c_spec_NameOk_1 fr H K) [0, 3] [] [0] K n [(0, .s a0), (3, .n .i64 v3_1)] ⟨1, []⟩ = spec_NameOk_l1 (K (some 0) [(0, .s a0)] ⟨1, []⟩) N a0 n v3_1 := by
  intro n
  induction n with
  | zero => intro v3_1; kernel_rfl
  | succ n ih => intro v3_1; exact (spec_NameOk_l1s_run N (rloop (fun fr H K => rcode (O_spec_NameOk N) τ_spec_NameOk N fin_spec_NameOk c_spec_NameOk_1 fr H K) [0, 3] [] [0] K n) K a0 v3_1).trans (congrArg (fun r => spec_NameOk_l1s r (K (some 0) [(0, .s a0)] ⟨1, []⟩) N a0 v3_1) (funext fun v3_1 => ih v3_1))
theorem spec_NameOk_h1_run (N : Nat) (a0 : ByteArray) (v3_1 : Int) : rloop (fun fr H K => rcode (O_spec_NameOk N) τ_spec_NameOk N fin_spec_NameOk c_spec_NameOk_1 fr H K) [0, 3] [] [0] (blockK 0 (seqK' (fun fr H K => rcode (O_spec_NameOk N) τ_spec_NameOk N fin_spec_NameOk c_spec_NameOk_2 fr H K) (finK R_spec_NameOk [.t 2]))) N [(0, .s a0), (3, .n .i64 v3_1)] ⟨1, []⟩ = spec_NameOk_h1 N a0 v3_1 :=
  ((spec_NameOk_l1_run N (blockK 0 (seqK' (fun fr H K => rcode (O_spec_NameOk N) τ_spec_NameOk N fin_spec_NameOk c_spec_NameOk_2 fr H K) (finK R_spec_NameOk [.t 2]))) a0 N v3_1)).trans (congrArg (fun h => spec_NameOk_l1 h N a0 N v3_1) (spec_NameOk_x1_0_run N a0))
def F_spec_NameOkR (N : Nat) (spec_NameOk_h1 : ByteArray → Int → Option Bool) (a0 : ByteArray) : Option Bool :=
  spec_NameOk_h1 a0 (0 : Int)
def F_spec_NameOk (N : Nat) (a0 : ByteArray) : Option Bool := F_spec_NameOkR N (spec_NameOk_h1 N) a0
theorem F_spec_NameOk_raw (N : Nat) (a0 : ByteArray) :
    runF (O_spec_NameOk N) N B_spec_NameOk R_spec_NameOk (vals T_spec_NameOk a0) = F_spec_NameOkR N (fun a0 v3_1 => rloop (fun fr H K => rcode (O_spec_NameOk N) τ_spec_NameOk N fin_spec_NameOk c_spec_NameOk_1 fr H K) [0, 3] [] [0] (blockK 0 (seqK' (fun fr H K => rcode (O_spec_NameOk N) τ_spec_NameOk N fin_spec_NameOk c_spec_NameOk_2 fr H K) (finK R_spec_NameOk [.t 2]))) N [(0, .s a0), (3, .n .i64 v3_1)] ⟨1, []⟩) a0 := by kernel_rfl
theorem F_spec_NameOk_run (N : Nat) (a0 : ByteArray) :
    runF (O_spec_NameOk N) N B_spec_NameOk R_spec_NameOk (vals T_spec_NameOk a0) = F_spec_NameOk N a0 :=
  (F_spec_NameOk_raw N a0).trans (congrArg (fun h => F_spec_NameOkR N h a0) (funext fun a0 => funext fun v3_1 => spec_NameOk_h1_run N a0 v3_1))
def P_spec_NameOk (N : Nat) (a0 : ByteArray) : Bool := lock (F_spec_NameOk N a0).isSome
def G_spec_NameOk (N : Nat) (a0 : ByteArray) : Bool := lock ((F_spec_NameOk N a0).getD false)
theorem FG_spec_NameOk {N : Nat} (a0 : ByteArray) (h : P_spec_NameOk N a0 = true) : F_spec_NameOk N a0 = some (G_spec_NameOk N a0) := by unfold P_spec_NameOk at h; unfold G_spec_NameOk; rw [lock_eq] at h ⊢; exact some_of_isSome h
theorem PG_spec_NameOk {N : Nat} {a0 : ByteArray} {v : Bool} (h : F_spec_NameOk N a0 = some v) : P_spec_NameOk N a0 = true ∧ G_spec_NameOk N a0 = v := by unfold P_spec_NameOk G_spec_NameOk; rw [h, lock_eq, lock_eq]; exact ⟨rfl, rfl⟩
def o_spec_NameOk (N : Nat) : List V → Bool × V := mkO T_spec_NameOk R_spec_NameOk (fun (x : ByteArray) => P_spec_NameOk N x) (fun (x : ByteArray) => G_spec_NameOk N x)
theorem spec_NameOk_entry (N : Nat) : Entry Try.prog 76 (o_spec_NameOk N) := Entry.of fun (x : ByteArray) h =>
  Pf.of_run hm Try.func76 okFn_spec_NameOk B_spec_NameOk_ok B_spec_NameOk_wf (O_spec_NameOk_ok N) rfl ((F_spec_NameOk_run N x).trans (FG_spec_NameOk x h))
/-! loop.example/g00526/spec.l1Word -/
abbrev T_spec_l1Word : List GT := [(.i .i64)]
abbrev R_spec_l1Word : List GT := [.b]
def fin_spec_l1Word : Fr2 → Hp → Option Bool := finF R_spec_l1Word [.t 2]
def O_spec_l1Word (N : Nat) : Orac := orc [(48, o_spec_l1In)] []
theorem O_spec_l1Word_ok (N : Nat) : OrcOk Try.prog (O_spec_l1Word N) := OrcOk.of ⟨spec_l1In_entry, trivial⟩ trivial
def τ_spec_l1Word : Nat → Option GT := fun _ => none
def B_spec_l1Word : F2 := ⟨5, 1, [.t 2], τ_spec_l1Word,
    .seq (.reg .reg [.op (some 2) (.mov (.c (.b false)))])
    (.seq (.reg .reg [.op (some 3) (.mov (.t 0)),
      .op (some 4) (.call (.c (.f 48 [])) [.t 3, .c (.n .i64 (-2147483648)), .c (.n .i64 2147483647)]),
      .op (some 2) (.mov (.t 4))])
    (.ret))⟩
theorem B_spec_l1Word_ok : checkFn Try.prog Try.f57 B_spec_l1Word.toA = true := by kernel_rfl
theorem B_spec_l1Word_wf : B_spec_l1Word.body.wf = true := by kernel_rfl
theorem okFn_spec_l1Word : okFn Try.prog 57 = true := by kernel_rfl
def F_spec_l1Word (N : Nat) (a0 : Int) : Option Bool :=
  some (G_spec_l1In a0 (-2147483648 : Int) (2147483647 : Int))
theorem F_spec_l1Word_run (N : Nat) (a0 : Int) :
    runF (O_spec_l1Word N) N B_spec_l1Word R_spec_l1Word (vals T_spec_l1Word a0) = F_spec_l1Word N a0 := by kernel_rfl
def G_spec_l1Word (a0 : Int) : Bool :=
  (G_spec_l1In a0 (-2147483648 : Int) (2147483647 : Int))
theorem FG_spec_l1Word (N : Nat) (a0 : Int) : F_spec_l1Word N a0 = some (G_spec_l1Word a0) := by
  first | rfl | (simp only [F_spec_l1Word, G_spec_l1Word, cond_some]; done) | (unfold F_spec_l1Word G_spec_l1Word; simp only [cond_some]; done)
def o_spec_l1Word : List V → Bool × V := mkO T_spec_l1Word R_spec_l1Word (fun (x : Int) => true) (fun (x : Int) => G_spec_l1Word x)
theorem spec_l1Word_entry : Entry Try.prog 57 o_spec_l1Word := Entry.of fun (x : Int) _ =>
  Pf.of_run hm Try.func57 okFn_spec_l1Word B_spec_l1Word_ok B_spec_l1Word_wf (O_spec_l1Word_ok 0) rfl ((F_spec_l1Word_run 0 x).trans (FG_spec_l1Word 0 x))
/-! loop.example/g00526/spec.l8Three -/
abbrev T_spec_l8Three : List GT := [(.sl (.i .i64))]
abbrev R_spec_l8Three : List GT := [.b]
def fin_spec_l8Three : Fr2 → Hp → Option Bool := finF R_spec_l8Three [.t 2]
def O_spec_l8Three (N : Nat) : Orac := orc [(57, o_spec_l1Word)] []
theorem O_spec_l8Three_ok (N : Nat) : OrcOk Try.prog (O_spec_l8Three N) := OrcOk.of ⟨spec_l1Word_entry, trivial⟩ trivial
def c_spec_l8Three_1 : C2 :=
    .seq (.seq (.reg .reg [.op (some 4) (.mov (.t 3)),
      .op (some 5) (.mov (.t 0)),
      .op (some 6) (.len false (.t 5)),
      .op (some 7) (.bin .lss (.t 4) (.t 6))])
    (.cond (.t 7) (.skip)
    (.exit 0)))
    (.seq (.block 1 (.seq (.reg .reg [.op (some 10) (.mov (.t 0)),
      .op (some 11) (.mov (.t 3)),
      .op (some 12) (.iad 1 (.t 10) (.t 11)),
      .op (some 13) (.load 1 false (.t 12)),
      .op (some 14) (.call (.c (.f 57 [])) [.t 13]),
      .op (some 15) (.un .not (.t 14))])
    (.cond (.t 15) (.seq (.reg .reg [.op (some 2) (.mov (.c (.b false)))])
    (.ret))
    (.skip))))
    (.reg .reg [.op (some 8) (.mov (.t 3)),
      .op (some 9) (.bin .add (.t 8) (.c (.n .i64 1))),
      .op (some 3) (.mov (.t 9))]))
def c_spec_l8Three_2 : C2 :=
    .seq (.reg .reg [.op (some 16) (.mov (.t 0)),
      .op (some 17) (.len false (.t 16)),
      .op (some 18) (.bin .eql (.t 17) (.c (.n .i64 3))),
      .op (some 2) (.mov (.t 18))])
    (.ret)
def τ_spec_l8Three : Nat → Option GT := fun _ => none
def B_spec_l8Three : F2 := ⟨19, 1, [.t 2], τ_spec_l8Three,
    .seq (.reg .reg [.op (some 2) (.mov (.c (.b false)))])
    (.seq (.seq (.reg .reg [.op (some 3) (.mov (.c (.n .i64 0)))])
    (.block 0 (.loop [0, 3] [] [0] c_spec_l8Three_1)))
    (c_spec_l8Three_2))⟩
theorem B_spec_l8Three_ok : checkFn Try.prog Try.f77 B_spec_l8Three.toA = true := by kernel_rfl
theorem B_spec_l8Three_wf : B_spec_l8Three.body.wf = true := by kernel_rfl
theorem okFn_spec_l8Three : okFn Try.prog 77 = true := by kernel_rfl
def spec_l8Three_l1s (r0 : Int → Option Bool) (k0_0 : Option Bool) (N : Nat) (a0 : List Int) (v3_1 : Int) : Option Bool :=
  bif (ilt v3_1 ((a0.length) : Int)) then
    let x1 : Int := (a0.getD (v3_1.toNat) (0 : Int))
    chk (inb v3_1 (a0.length)) <|
    bif (!(G_spec_l1Word x1)) then
      some false
    else
      r0 (w64 (v3_1 + (1 : Int)))
  else
    k0_0
theorem spec_l8Three_l1s_run (N : Nat) (C0 : Fr2 → Hp → Option Bool) (K0 : Option Nat → Fr2 → Hp → Option Bool) (a0 : List Int) (v3_1 : Int) :
    rcode (O_spec_l8Three N) τ_spec_l8Three N fin_spec_l8Three c_spec_l8Three_1 [(0, .q (.i .i64) a0), (3, .n .i64 v3_1)] ⟨1, []⟩ (roundK [0, 3] [] [0] C0 K0) = spec_l8Three_l1s (fun v3_1 => C0 [(0, .q (.i .i64) a0), (3, .n .i64 v3_1)] ⟨1, []⟩) (K0 (some 0) [(0, .q (.i .i64) a0)] ⟨1, []⟩) N a0 v3_1 := by kernel_rfl
def spec_l8Three_x1_0 (N : Nat) (a0 : List Int) : Option Bool :=
  some (ieq ((a0.length) : Int) (3 : Int))
theorem spec_l8Three_x1_0_run (N : Nat) (a0 : List Int) :
    (blockK 0 (seqK' (fun fr H K => rcode (O_spec_l8Three N) τ_spec_l8Three N fin_spec_l8Three c_spec_l8Three_2 fr H K) (finK R_spec_l8Three [.t 2]))) (some 0) [(0, .q (.i .i64) a0)] ⟨1, []⟩ = spec_l8Three_x1_0 N a0 := by kernel_rfl
def spec_l8Three_l1 (k0_0 : Option Bool) (N : Nat) (a0 : List Int) : Nat → Int → Option Bool
  | 0, _ => none
  | n + 1, v3_1 => spec_l8Three_l1s (spec_l8Three_l1 k0_0 N a0 n) k0_0 N a0 v3_1
def spec_l8Three_h1 (N : Nat) (a0 : List Int) (v3_1 : Int) : Option Bool :=
  spec_l8Three_l1 (spec_l8Three_x1_0 N a0) N a0 N v3_1
theorem spec_l8Three_l1_run (N : Nat)  (K : Option Nat → Fr2 → Hp → Option Bool) (a0 : List Int) : ∀ (n : Nat) (v3_1 : Int),
    rloop (fun fr H K => rcode (O_spec_l8Three N) τ_spec_l8Three N fin_spec_l8Three c_spec_l8Three_1 fr H K) [0, 3] [] [0] K n [(0, .q (.i .i64) a0), (3, .n .i64 v3_1)] ⟨1, []⟩ = spec_l8Three_l1 (K (some 0) [(0, .q (.i .i64) a0)] ⟨1, []⟩) N a0 n v3_1 := by
  intro n
  induction n with
  | zero => intro v3_1; kernel_rfl
  | succ n ih => intro v3_1; exact (spec_l8Three_l1s_run N (rloop (fun fr H K => rcode (O_spec_l8Three N) τ_spec_l8Three N fin_spec_l8Three c_spec_l8Three_1 fr H K) [0, 3] [] [0] K n) K a0 v3_1).trans (congrArg (fun r => spec_l8Three_l1s r (K (some 0) [(0, .q (.i .i64) a0)] ⟨1, []⟩) N a0 v3_1) (funext fun v3_1 => ih v3_1))
theorem spec_l8Three_h1_run (N : Nat) (a0 : List Int) (v3_1 : Int) : rloop (fun fr H K => rcode (O_spec_l8Three N) τ_spec_l8Three N fin_spec_l8Three c_spec_l8Three_1 fr H K) [0, 3] [] [0] (blockK 0 (seqK' (fun fr H K => rcode (O_spec_l8Three N) τ_spec_l8Three N fin_spec_l8Three c_spec_l8Three_2 fr H K) (finK R_spec_l8Three [.t 2]))) N [(0, .q (.i .i64) a0), (3, .n .i64 v3_1)] ⟨1, []⟩ = spec_l8Three_h1 N a0 v3_1 :=
  ((spec_l8Three_l1_run N (blockK 0 (seqK' (fun fr H K => rcode (O_spec_l8Three N) τ_spec_l8Three N fin_spec_l8Three c_spec_l8Three_2 fr H K) (finK R_spec_l8Three [.t 2]))) a0 N v3_1)).trans (congrArg (fun h => spec_l8Three_l1 h N a0 N v3_1) (spec_l8Three_x1_0_run N a0))
def F_spec_l8ThreeR (N : Nat) (spec_l8Three_h1 : List Int → Int → Option Bool) (a0 : List Int) : Option Bool :=
  spec_l8Three_h1 a0 (0 : Int)
def F_spec_l8Three (N : Nat) (a0 : List Int) : Option Bool := F_spec_l8ThreeR N (spec_l8Three_h1 N) a0
theorem F_spec_l8Three_raw (N : Nat) (a0 : List Int) :
    runF (O_spec_l8Three N) N B_spec_l8Three R_spec_l8Three (vals T_spec_l8Three a0) = F_spec_l8ThreeR N (fun a0 v3_1 => rloop (fun fr H K => rcode (O_spec_l8Three N) τ_spec_l8Three N fin_spec_l8Three c_spec_l8Three_1 fr H K) [0, 3] [] [0] (blockK 0 (seqK' (fun fr H K => rcode (O_spec_l8Three N) τ_spec_l8Three N fin_spec_l8Three c_spec_l8Three_2 fr H K) (finK R_spec_l8Three [.t 2]))) N [(0, .q (.i .i64) a0), (3, .n .i64 v3_1)] ⟨1, []⟩) a0 := by kernel_rfl
theorem F_spec_l8Three_run (N : Nat) (a0 : List Int) :
    runF (O_spec_l8Three N) N B_spec_l8Three R_spec_l8Three (vals T_spec_l8Three a0) = F_spec_l8Three N a0 :=
  (F_spec_l8Three_raw N a0).trans (congrArg (fun h => F_spec_l8ThreeR N h a0) (funext fun a0 => funext fun v3_1 => spec_l8Three_h1_run N a0 v3_1))
def P_spec_l8Three (N : Nat) (a0 : List Int) : Bool := lock (F_spec_l8Three N a0).isSome
def G_spec_l8Three (N : Nat) (a0 : List Int) : Bool := lock ((F_spec_l8Three N a0).getD false)
theorem FG_spec_l8Three {N : Nat} (a0 : List Int) (h : P_spec_l8Three N a0 = true) : F_spec_l8Three N a0 = some (G_spec_l8Three N a0) := by unfold P_spec_l8Three at h; unfold G_spec_l8Three; rw [lock_eq] at h ⊢; exact some_of_isSome h
theorem PG_spec_l8Three {N : Nat} {a0 : List Int} {v : Bool} (h : F_spec_l8Three N a0 = some v) : P_spec_l8Three N a0 = true ∧ G_spec_l8Three N a0 = v := by unfold P_spec_l8Three G_spec_l8Three; rw [h, lock_eq, lock_eq]; exact ⟨rfl, rfl⟩
def o_spec_l8Three (N : Nat) : List V → Bool × V := mkO T_spec_l8Three R_spec_l8Three (fun (x : List Int) => P_spec_l8Three N x) (fun (x : List Int) => G_spec_l8Three N x)
theorem spec_l8Three_entry (N : Nat) : Entry Try.prog 77 (o_spec_l8Three N) := Entry.of fun (x : List Int) h =>
  Pf.of_run hm Try.func77 okFn_spec_l8Three B_spec_l8Three_ok B_spec_l8Three_wf (O_spec_l8Three_ok N) rfl ((F_spec_l8Three_run N x).trans (FG_spec_l8Three x h))
/-! loop.example/g00526/spec.l14Plain -/
abbrev T_spec_l14Plain : List GT := [.s, (.i .i64)]
abbrev R_spec_l14Plain : List GT := [.b]
def fin_spec_l14Plain : Fr2 → Hp → Option Bool := finF R_spec_l14Plain [.t 4]
def O_spec_l14Plain (N : Nat) : Orac := orc [] []
theorem O_spec_l14Plain_ok (N : Nat) : OrcOk Try.prog (O_spec_l14Plain N) := OrcOk.of trivial trivial
def c_spec_l14Plain_1 : C2 :=
    .seq (.seq (.reg .reg [.op (some 6) (.mov (.t 5)),
      .op (some 7) (.mov (.t 0)),
      .op (some 8) (.len true (.t 7)),
      .op (some 9) (.bin .lss (.t 6) (.t 8))])
    (.cond (.t 9) (.skip)
    (.exit 0)))
    (.seq (.block 1 (.seq (.reg .reg [.op (some 12) (.mov (.t 0)),
      .op (some 13) (.mov (.t 5)),
      .op (some 14) (.idx (.t 12) (.t 13)),
      .op (some 15) (.bin .eql (.t 14) (.c (.n .u8 10)))])
    (.cond (.t 15) (.seq (.reg .reg [.op (some 4) (.mov (.c (.b false)))])
    (.ret))
    (.skip))))
    (.reg .reg [.op (some 10) (.mov (.t 5)),
      .op (some 11) (.bin .add (.t 10) (.c (.n .i64 1))),
      .op (some 5) (.mov (.t 11))]))
def c_spec_l14Plain_2 : C2 :=
    .seq (.reg .reg [.op (some 16) (.mov (.t 0)),
      .op (some 17) (.len true (.t 16)),
      .op (some 18) (.mov (.t 1)),
      .op (some 19) (.bin .leq (.t 17) (.t 18)),
      .op (some 4) (.mov (.t 19))])
    (.ret)
def τ_spec_l14Plain : Nat → Option GT := fun _ => none
def B_spec_l14Plain : F2 := ⟨20, 2, [.t 4], τ_spec_l14Plain,
    .seq (.reg .reg [.op (some 4) (.mov (.c (.b false)))])
    (.seq (.seq (.reg .reg [.op (some 5) (.mov (.c (.n .i64 0)))])
    (.block 0 (.loop [0, 1, 5] [] [0, 1] c_spec_l14Plain_1)))
    (c_spec_l14Plain_2))⟩
theorem B_spec_l14Plain_ok : checkFn Try.prog Try.f78 B_spec_l14Plain.toA = true := by kernel_rfl
theorem B_spec_l14Plain_wf : B_spec_l14Plain.body.wf = true := by kernel_rfl
theorem okFn_spec_l14Plain : okFn Try.prog 78 = true := by kernel_rfl
def spec_l14Plain_l1s (r0 : Int → Option Bool) (k0_0 : Option Bool) (N : Nat) (a0 : ByteArray) (a1 : Int) (v5_1 : Int) : Option Bool :=
  bif (ilt v5_1 (a0.size : Int)) then
    chk (inb v5_1 a0.size) <|
    bif (ieq ((a0[(v5_1.toNat)]!).toNat : Int) (10 : Int)) then
      some false
    else
      r0 (w64 (v5_1 + (1 : Int)))
  else
    k0_0
theorem spec_l14Plain_l1s_run (N : Nat) (C0 : Fr2 → Hp → Option Bool) (K0 : Option Nat → Fr2 → Hp → Option Bool) (a0 : ByteArray) (a1 : Int) (v5_1 : Int) :
    rcode (O_spec_l14Plain N) τ_spec_l14Plain N fin_spec_l14Plain c_spec_l14Plain_1 [(0, .s a0), (1, .n .i64 a1), (5, .n .i64 v5_1)] ⟨1, []⟩ (roundK [0, 1, 5] [] [0, 1] C0 K0) = spec_l14Plain_l1s (fun v5_1 => C0 [(0, .s a0), (1, .n .i64 a1), (5, .n .i64 v5_1)] ⟨1, []⟩) (K0 (some 0) [(0, .s a0), (1, .n .i64 a1)] ⟨1, []⟩) N a0 a1 v5_1 := by kernel_rfl
def spec_l14Plain_x1_0 (N : Nat) (a0 : ByteArray) (a1 : Int) : Option Bool :=
  some (ile (a0.size : Int) a1)
theorem spec_l14Plain_x1_0_run (N : Nat) (a0 : ByteArray) (a1 : Int) :
    (blockK 0 (seqK' (fun fr H K => rcode (O_spec_l14Plain N) τ_spec_l14Plain N fin_spec_l14Plain c_spec_l14Plain_2 fr H K) (finK R_spec_l14Plain [.t 4]))) (some 0) [(0, .s a0), (1, .n .i64 a1)] ⟨1, []⟩ = spec_l14Plain_x1_0 N a0 a1 := by kernel_rfl
def spec_l14Plain_l1 (k0_0 : Option Bool) (N : Nat) (a0 : ByteArray) (a1 : Int) : Nat → Int → Option Bool
  | 0, _ => none
  | n + 1, v5_1 => spec_l14Plain_l1s (spec_l14Plain_l1 k0_0 N a0 a1 n) k0_0 N a0 a1 v5_1
def spec_l14Plain_h1 (N : Nat) (a0 : ByteArray) (a1 : Int) (v5_1 : Int) : Option Bool :=
  spec_l14Plain_l1 (spec_l14Plain_x1_0 N a0 a1) N a0 a1 N v5_1
theorem spec_l14Plain_l1_run (N : Nat)  (K : Option Nat → Fr2 → Hp → Option Bool) (a0 : ByteArray) (a1 : Int) : ∀ (n : Nat) (v5_1 : Int),
    rloop (fun fr H K => rcode (O_spec_l14Plain N) τ_spec_l14Plain N fin_spec_l14Plain c_spec_l14Plain_1 fr H K) [0, 1, 5] [] [0, 1] K n [(0, .s a0), (1, .n .i64 a1), (5, .n .i64 v5_1)] ⟨1, []⟩ = spec_l14Plain_l1 (K (some 0) [(0, .s a0), (1, .n .i64 a1)] ⟨1, []⟩) N a0 a1 n v5_1 := by
  intro n
  induction n with
  | zero => intro v5_1; kernel_rfl
  | succ n ih => intro v5_1; exact (spec_l14Plain_l1s_run N (rloop (fun fr H K => rcode (O_spec_l14Plain N) τ_spec_l14Plain N fin_spec_l14Plain c_spec_l14Plain_1 fr H K) [0, 1, 5] [] [0, 1] K n) K a0 a1 v5_1).trans (congrArg (fun r => spec_l14Plain_l1s r (K (some 0) [(0, .s a0), (1, .n .i64 a1)] ⟨1, []⟩) N a0 a1 v5_1) (funext fun v5_1 => ih v5_1))
theorem spec_l14Plain_h1_run (N : Nat) (a0 : ByteArray) (a1 : Int) (v5_1 : Int) : rloop (fun fr H K => rcode (O_spec_l14Plain N) τ_spec_l14Plain N fin_spec_l14Plain c_spec_l14Plain_1 fr H K) [0, 1, 5] [] [0, 1] (blockK 0 (seqK' (fun fr H K => rcode (O_spec_l14Plain N) τ_spec_l14Plain N fin_spec_l14Plain c_spec_l14Plain_2 fr H K) (finK R_spec_l14Plain [.t 4]))) N [(0, .s a0), (1, .n .i64 a1), (5, .n .i64 v5_1)] ⟨1, []⟩ = spec_l14Plain_h1 N a0 a1 v5_1 :=
  ((spec_l14Plain_l1_run N (blockK 0 (seqK' (fun fr H K => rcode (O_spec_l14Plain N) τ_spec_l14Plain N fin_spec_l14Plain c_spec_l14Plain_2 fr H K) (finK R_spec_l14Plain [.t 4]))) a0 a1 N v5_1)).trans (congrArg (fun h => spec_l14Plain_l1 h N a0 a1 N v5_1) (spec_l14Plain_x1_0_run N a0 a1))
def F_spec_l14PlainR (N : Nat) (spec_l14Plain_h1 : ByteArray → Int → Int → Option Bool) (a0 : ByteArray) (a1 : Int) : Option Bool :=
  spec_l14Plain_h1 a0 a1 (0 : Int)
def F_spec_l14Plain (N : Nat) (a0 : ByteArray) (a1 : Int) : Option Bool := F_spec_l14PlainR N (spec_l14Plain_h1 N) a0 a1
theorem F_spec_l14Plain_raw (N : Nat) (a0 : ByteArray) (a1 : Int) :
    runF (O_spec_l14Plain N) N B_spec_l14Plain R_spec_l14Plain (vals T_spec_l14Plain (a0, a1)) = F_spec_l14PlainR N (fun a0 a1 v5_1 => rloop (fun fr H K => rcode (O_spec_l14Plain N) τ_spec_l14Plain N fin_spec_l14Plain c_spec_l14Plain_1 fr H K) [0, 1, 5] [] [0, 1] (blockK 0 (seqK' (fun fr H K => rcode (O_spec_l14Plain N) τ_spec_l14Plain N fin_spec_l14Plain c_spec_l14Plain_2 fr H K) (finK R_spec_l14Plain [.t 4]))) N [(0, .s a0), (1, .n .i64 a1), (5, .n .i64 v5_1)] ⟨1, []⟩) a0 a1 := by kernel_rfl
theorem F_spec_l14Plain_run (N : Nat) (a0 : ByteArray) (a1 : Int) :
    runF (O_spec_l14Plain N) N B_spec_l14Plain R_spec_l14Plain (vals T_spec_l14Plain (a0, a1)) = F_spec_l14Plain N a0 a1 :=
  (F_spec_l14Plain_raw N a0 a1).trans (congrArg (fun h => F_spec_l14PlainR N h a0 a1) (funext fun a0 => funext fun a1 => funext fun v5_1 => spec_l14Plain_h1_run N a0 a1 v5_1))
def P_spec_l14Plain (N : Nat) (a0 : ByteArray) (a1 : Int) : Bool := lock (F_spec_l14Plain N a0 a1).isSome
def G_spec_l14Plain (N : Nat) (a0 : ByteArray) (a1 : Int) : Bool := lock ((F_spec_l14Plain N a0 a1).getD false)
theorem FG_spec_l14Plain {N : Nat} (a0 : ByteArray) (a1 : Int) (h : P_spec_l14Plain N a0 a1 = true) : F_spec_l14Plain N a0 a1 = some (G_spec_l14Plain N a0 a1) := by unfold P_spec_l14Plain at h; unfold G_spec_l14Plain; rw [lock_eq] at h ⊢; exact some_of_isSome h
theorem PG_spec_l14Plain {N : Nat} {a0 : ByteArray} {a1 : Int} {v : Bool} (h : F_spec_l14Plain N a0 a1 = some v) : P_spec_l14Plain N a0 a1 = true ∧ G_spec_l14Plain N a0 a1 = v := by unfold P_spec_l14Plain G_spec_l14Plain; rw [h, lock_eq, lock_eq]; exact ⟨rfl, rfl⟩
def o_spec_l14Plain (N : Nat) : List V → Bool × V := mkO T_spec_l14Plain R_spec_l14Plain (fun (x : (ByteArray × Int)) => P_spec_l14Plain N x.1 x.2) (fun (x : (ByteArray × Int)) => G_spec_l14Plain N x.1 x.2)
theorem spec_l14Plain_entry (N : Nat) : Entry Try.prog 78 (o_spec_l14Plain N) := Entry.of fun (x : (ByteArray × Int)) h =>
  Pf.of_run hm Try.func78 okFn_spec_l14Plain B_spec_l14Plain_ok B_spec_l14Plain_wf (O_spec_l14Plain_ok N) rfl ((F_spec_l14Plain_run N x.1 x.2).trans (FG_spec_l14Plain x.1 x.2 h))
/-! loop.example/g00526/spec.OrderOk -/
abbrev T_spec_OrderOk : List GT := [tOrder]
abbrev R_spec_OrderOk : List GT := [.b]
def fin_spec_OrderOk : Fr2 → Hp → Option Bool := finF R_spec_OrderOk [.t 2]
def O_spec_OrderOk (N : Nat) : Orac := orc [(48, o_spec_l1In), (76, o_spec_NameOk N), (57, o_spec_l1Word), (77, o_spec_l8Three N), (78, o_spec_l14Plain N)] []
theorem O_spec_OrderOk_ok (N : Nat) : OrcOk Try.prog (O_spec_OrderOk N) := OrcOk.of ⟨spec_l1In_entry, spec_NameOk_entry N, spec_l1Word_entry, spec_l8Three_entry N, spec_l14Plain_entry N, trivial⟩ trivial
def τ_spec_OrderOk : Nat → Option GT := fun _ => none
def B_spec_OrderOk : F2 := ⟨123, 1, [.t 2], τ_spec_OrderOk,
    .seq (.reg .reg [.op (some 1) (.box (.t 0)),
      .op (some 2) (.mov (.c (.b false)))])
    (.seq (.seq (.reg .reg [.op (some 5) (.fad 1 (.t 1)),
      .op (some 6) (.load 1 false (.t 5)),
      .op (some 7) (.call (.c (.f 48 [])) [.t 6, .c (.n .i64 0), .c (.n .i64 3)]),
      .op (some 8) (.un .not (.t 7)),
      .op (some 9) (.mov (.t 8)),
      .br 9 false [.op (some 10) (.fad 2 (.t 1)), .op (some 11) (.load 1 false (.t 10)), .op (some 12) (.call (.c (.f 48 [])) [.t 11, .c (.n .i64 1), .c (.n .i64 100)]), .op (some 13) (.un .not (.t 12))] [10, 11, 12, 13] 14 13,
      .op (some 15) (.mov (.t 14)),
      .br 15 false [.op (some 16) (.fad 4 (.t 1)), .op (some 17) (.load 1 false (.t 16)), .op (some 18) (.call (.c (.f 76 [])) [.t 17]), .op (some 19) (.un .not (.t 18))] [16, 17, 18, 19] 20 19])
    (.cond (.t 20) (.seq (.reg .reg [.op (some 2) (.mov (.c (.b false)))])
    (.ret))
    (.skip)))
    (.seq (.reg .reg [.op (some 21) (.fad 0 (.t 1)),
      .op (some 22) (.load 1 false (.t 21)),
      .op (some 23) (.bin .neq (.t 22) (.c (.n .i64 4))),
      .op (some 3) (.mov (.t 23))])
    (.seq (.seq (.reg .reg [.op (some 24) (.mov (.t 3)),
      .op (some 25) (.mov (.t 24)),
      .br 25 true [.op (some 26) (.fad 3 (.t 1)), .op (some 27) (.load 1 false (.t 26)), .op (some 28) (.call (.c (.f 76 [])) [.t 27]), .op (some 29) (.un .not (.t 28))] [26, 27, 28, 29] 30 29,
      .op (some 31) (.mov (.t 30)),
      .br 31 false [.op (some 32) (.mov (.t 3)), .op (some 33) (.un .not (.t 32)), .op (some 34) (.mov (.t 33)), .br 34 true [.op (some 35) (.fad 3 (.t 1)), .op (some 36) (.load 1 false (.t 35)), .op (some 37) (.bin .neq (.t 36) (.c (.s ⟨#[]⟩)))] [35, 36, 37] 38 37] [32, 33, 34, 35, 36, 37, 38] 39 38])
    (.cond (.t 39) (.seq (.reg .reg [.op (some 2) (.mov (.c (.b false)))])
    (.ret))
    (.skip)))
    (.seq (.reg .reg [.op (some 40) (.fad 0 (.t 1)),
      .op (some 41) (.load 1 false (.t 40)),
      .op (some 42) (.bin .eql (.t 41) (.c (.n .i64 1))),
      .op (some 43) (.mov (.t 42)),
      .br 43 false [.op (some 44) (.fad 0 (.t 1)), .op (some 45) (.load 1 false (.t 44)), .op (some 46) (.bin .eql (.t 45) (.c (.n .i64 3)))] [44, 45, 46] 47 46,
      .op (some 4) (.mov (.t 47))])
    (.seq (.seq (.reg .reg [.op (some 48) (.mov (.t 4)),
      .op (some 49) (.mov (.t 48)),
      .br 49 true [.op (some 50) (.fad 5 (.t 1)), .op (some 51) (.load 1 false (.t 50)), .op (some 52) (.call (.c (.f 57 [])) [.t 51]), .op (some 53) (.un .not (.t 52))] [50, 51, 52, 53] 54 53,
      .op (some 55) (.mov (.t 54)),
      .br 55 false [.op (some 56) (.mov (.t 4)), .op (some 57) (.un .not (.t 56)), .op (some 58) (.mov (.t 57)), .br 58 true [.op (some 59) (.fad 5 (.t 1)), .op (some 60) (.load 1 false (.t 59)), .op (some 61) (.bin .neq (.t 60) (.c (.n .i64 0)))] [59, 60, 61] 62 61] [56, 57, 58, 59, 60, 61, 62] 63 62])
    (.cond (.t 63) (.seq (.reg .reg [.op (some 2) (.mov (.c (.b false)))])
    (.ret))
    (.skip)))
    (.seq (.seq (.reg .reg [.op (some 64) (.fad 0 (.t 1)),
      .op (some 65) (.load 1 false (.t 64)),
      .op (some 66) (.bin .eql (.t 65) (.c (.n .i64 3))),
      .op (some 67) (.mov (.t 66)),
      .br 67 true [.op (some 68) (.fad 6 (.t 1)), .op (some 69) (.load 1 false (.t 68)), .op (some 70) (.call (.c (.f 57 [])) [.t 69]), .op (some 71) (.un .not (.t 70))] [68, 69, 70, 71] 72 71,
      .op (some 73) (.mov (.t 72)),
      .br 73 false [.op (some 74) (.fad 0 (.t 1)), .op (some 75) (.load 1 false (.t 74)), .op (some 76) (.bin .neq (.t 75) (.c (.n .i64 3))), .op (some 77) (.mov (.t 76)), .br 77 true [.op (some 78) (.fad 6 (.t 1)), .op (some 79) (.load 1 false (.t 78)), .op (some 80) (.bin .neq (.t 79) (.c (.n .i64 0)))] [78, 79, 80] 81 80] [74, 75, 76, 77, 78, 79, 80, 81] 82 81])
    (.cond (.t 82) (.seq (.reg .reg [.op (some 2) (.mov (.c (.b false)))])
    (.ret))
    (.skip)))
    (.seq (.seq (.reg .reg [.op (some 83) (.fad 0 (.t 1)),
      .op (some 84) (.load 1 false (.t 83)),
      .op (some 85) (.bin .eql (.t 84) (.c (.n .i64 5))),
      .op (some 86) (.mov (.t 85)),
      .br 86 true [.op (some 87) (.fad 7 (.t 1)), .op (some 88) (.load 1 false (.t 87)), .op (some 89) (.call (.c (.f 77 [])) [.t 88]), .op (some 90) (.un .not (.t 89))] [87, 88, 89, 90] 91 90,
      .op (some 92) (.mov (.t 91)),
      .br 92 false [.op (some 93) (.fad 0 (.t 1)), .op (some 94) (.load 1 false (.t 93)), .op (some 95) (.bin .neq (.t 94) (.c (.n .i64 5))), .op (some 96) (.mov (.t 95)), .br 96 true [.op (some 97) (.fad 7 (.t 1)), .op (some 98) (.load 1 false (.t 97)), .op (some 99) (.len false (.t 98)), .op (some 100) (.bin .gtr (.t 99) (.c (.n .i64 0)))] [97, 98, 99, 100] 101 100] [93, 94, 95, 96, 97, 98, 99, 100, 101] 102 101])
    (.cond (.t 102) (.seq (.reg .reg [.op (some 2) (.mov (.c (.b false)))])
    (.ret))
    (.skip)))
    (.seq (.reg .reg [.op (some 103) (.fad 0 (.t 1)),
      .op (some 104) (.load 1 false (.t 103)),
      .op (some 105) (.call (.c (.f 48 [])) [.t 104, .c (.n .i64 1), .c (.n .i64 6)]),
      .op (some 106) (.mov (.t 105)),
      .br 106 true [.op (some 107) (.mov (.t 3)), .op (some 108) (.un .not (.t 107)), .op (some 109) (.mov (.t 108)), .br 109 true [.op (some 110) (.fad 8 (.t 1)), .op (some 111) (.load 1 false (.t 110)), .op (some 112) (.call (.c (.f 78 [])) [.t 111, .c (.n .i64 200)])] [110, 111, 112] 113 112, .op (some 114) (.mov (.t 113)), .br 114 false [.op (some 115) (.mov (.t 3)), .op (some 116) (.mov (.t 115)), .br 116 true [.op (some 117) (.fad 8 (.t 1)), .op (some 118) (.load 1 false (.t 117)), .op (some 119) (.bin .eql (.t 118) (.c (.s ⟨#[]⟩)))] [117, 118, 119] 120 119] [115, 116, 117, 118, 119, 120] 121 120] [107, 108, 109, 110, 111, 112, 113, 114, 115, 116, 117, 118, 119, 120, 121] 122 121,
      .op (some 2) (.mov (.t 122))])
    (.ret)))))))))⟩
theorem B_spec_OrderOk_ok : checkFn Try.prog Try.f34 B_spec_OrderOk.toA = true := by kernel_rfl
theorem B_spec_OrderOk_wf : B_spec_OrderOk.body.wf = true := by kernel_rfl
theorem okFn_spec_OrderOk : okFn Try.prog 34 = true := by kernel_rfl
def F_spec_OrderOk (N : Nat) (a0 : DOrder) : Option Bool :=
  chk ((P_spec_NameOk N a0.2.2.2.2.1) || ((!(G_spec_l1In a0.2.1 (0 : Int) (3 : Int))) || (!(G_spec_l1In a0.2.2.1 (1 : Int) (100 : Int))))) <|
  bif (((!(G_spec_l1In a0.2.1 (0 : Int) (3 : Int))) || (!(G_spec_l1In a0.2.2.1 (1 : Int) (100 : Int)))) || (!(G_spec_NameOk N a0.2.2.2.2.1))) then
    some false
  else
    chk ((P_spec_NameOk N a0.2.2.2.1) || (!(!ieq a0.1 (4 : Int)))) <|
    bif (((!ieq a0.1 (4 : Int)) && (!(G_spec_NameOk N a0.2.2.2.1))) || ((!(!ieq a0.1 (4 : Int))) && (!decide (a0.2.2.2.1 = (⟨#[]⟩ : ByteArray))))) then
      some false
    else
      bif ((((ieq a0.1 (1 : Int)) || (ieq a0.1 (3 : Int))) && (!(G_spec_l1Word a0.2.2.2.2.2.1))) || ((!((ieq a0.1 (1 : Int)) || (ieq a0.1 (3 : Int)))) && (!ieq a0.2.2.2.2.2.1 (0 : Int)))) then
        some false
      else
        bif (((ieq a0.1 (3 : Int)) && (!(G_spec_l1Word a0.2.2.2.2.2.2.1))) || ((!ieq a0.1 (3 : Int)) && (!ieq a0.2.2.2.2.2.2.1 (0 : Int)))) then
          some false
        else
          chk ((P_spec_l8Three N a0.2.2.2.2.2.2.2.1) || (!(ieq a0.1 (5 : Int)))) <|
          bif (((ieq a0.1 (5 : Int)) && (!(G_spec_l8Three N a0.2.2.2.2.2.2.2.1))) || ((!ieq a0.1 (5 : Int)) && (ilt (0 : Int) ((a0.2.2.2.2.2.2.2.1.length) : Int)))) then
            some false
          else
            chk (((P_spec_l14Plain N a0.2.2.2.2.2.2.2.2 (200 : Int)) || (!(!(!ieq a0.1 (4 : Int))))) || (!(G_spec_l1In a0.1 (1 : Int) (6 : Int)))) <|
            some ((G_spec_l1In a0.1 (1 : Int) (6 : Int)) && (((!(!ieq a0.1 (4 : Int))) && (G_spec_l14Plain N a0.2.2.2.2.2.2.2.2 (200 : Int))) || ((!ieq a0.1 (4 : Int)) && (decide (a0.2.2.2.2.2.2.2.2 = (⟨#[]⟩ : ByteArray))))))
theorem F_spec_OrderOk_run (N : Nat) (a0 : DOrder) :
    runF (O_spec_OrderOk N) N B_spec_OrderOk R_spec_OrderOk (vals T_spec_OrderOk a0) = F_spec_OrderOk N a0 := by kernel_rfl
def P_spec_OrderOk (N : Nat) (a0 : DOrder) : Bool := lock (F_spec_OrderOk N a0).isSome
def G_spec_OrderOk (N : Nat) (a0 : DOrder) : Bool := lock ((F_spec_OrderOk N a0).getD false)
theorem FG_spec_OrderOk {N : Nat} (a0 : DOrder) (h : P_spec_OrderOk N a0 = true) : F_spec_OrderOk N a0 = some (G_spec_OrderOk N a0) := by unfold P_spec_OrderOk at h; unfold G_spec_OrderOk; rw [lock_eq] at h ⊢; exact some_of_isSome h
theorem PG_spec_OrderOk {N : Nat} {a0 : DOrder} {v : Bool} (h : F_spec_OrderOk N a0 = some v) : P_spec_OrderOk N a0 = true ∧ G_spec_OrderOk N a0 = v := by unfold P_spec_OrderOk G_spec_OrderOk; rw [h, lock_eq, lock_eq]; exact ⟨rfl, rfl⟩
def o_spec_OrderOk (N : Nat) : List V → Bool × V := mkO T_spec_OrderOk R_spec_OrderOk (fun (x : DOrder) => P_spec_OrderOk N x) (fun (x : DOrder) => G_spec_OrderOk N x)
theorem spec_OrderOk_entry (N : Nat) : Entry Try.prog 34 (o_spec_OrderOk N) := Entry.of fun (x : DOrder) h =>
  Pf.of_run hm Try.func34 okFn_spec_OrderOk B_spec_OrderOk_ok B_spec_OrderOk_wf (O_spec_OrderOk_ok N) rfl ((F_spec_OrderOk_run N x).trans (FG_spec_OrderOk x h))
def P_strings_Contains (s t : ByteArray) : Bool := decide (t = ⟨#[t[0]!]⟩)
def hasByte (s : ByteArray) (c : UInt8) : Bool := decide (0 ≤ Lib.indexByte s.data.toList c)
def G_strings_Contains (s t : ByteArray) : Bool := hasByte s (t[0]!)
def o_strings_Contains : List V → Bool × V := mkO [.s, .s] [.b] (fun (x : ByteArray × ByteArray) => P_strings_Contains x.1 x.2) (fun (x : ByteArray × ByteArray) => G_strings_Contains x.1 x.2)
theorem strings_Contains_entry : Entry Try.prog 104 o_strings_Contains := Entry.of fun (x : ByteArray × ByteArray) h => by
  obtain ⟨s, t⟩ := x
  have ht : t = ⟨#[t[0]!]⟩ := of_decide_eq_true h
  exact Pf.of_calls (by kernel_rfl) (cargs := [.string s, .string t]) (v := .bool (hasByte s (t[0]!))) (fun ρ cs h => by
    simp only [valsA, densHd, densTl, cellsA, mkValA, GT.isAgg, VRs, VR] at h
    obtain ⟨_, _, rfl, rfl, _, _, rfl, rfl, rfl⟩ := h
    rfl) (fun ρ => by simp only [encA, valA, cellsA, mkValA, GT.isAgg, VR]; rfl) fun w => by
      have k := Sh.Try.strings_Contains_one s (t[0]!) w
      rw [← ht] at k
      exact k.mono fun e w' ⟨h1, h2⟩ => by subst h2; exact ⟨h1, rfl, rfl, rfl, rfl⟩
/-! loop.example/g00526/impl.wrap -/
abbrev T_impl_wrap : List GT := [(.i .i64)]
abbrev R_impl_wrap : List GT := [(.i .i64)]
def fin_impl_wrap : Fr2 → Hp → Option Int := finF R_impl_wrap [.t 2]
def O_impl_wrap (N : Nat) : Orac := orc [] []
theorem O_impl_wrap_ok (N : Nat) : OrcOk Try.prog (O_impl_wrap N) := OrcOk.of trivial trivial
def τ_impl_wrap : Nat → Option GT := fun _ => none
def B_impl_wrap : F2 := ⟨6, 1, [.t 2], τ_impl_wrap,
    .seq (.reg .reg [.op (some 2) (.mov (.c (.n .i64 0)))])
    (.seq (.reg .reg [.op (some 3) (.mov (.t 0)),
      .op (some 4) (.conv .i32 (.t 3)),
      .op (some 5) (.conv .i64 (.t 4)),
      .op (some 2) (.mov (.t 5))])
    (.ret))⟩
theorem B_impl_wrap_ok : checkFn Try.prog Try.f123 B_impl_wrap.toA = true := by kernel_rfl
theorem B_impl_wrap_wf : B_impl_wrap.body.wf = true := by kernel_rfl
theorem okFn_impl_wrap : okFn Try.prog 123 = true := by kernel_rfl
def F_impl_wrap (N : Nat) (a0 : Int) : Option Int :=
  some (w64 (IntKind.wrap .i32 a0))
theorem F_impl_wrap_run (N : Nat) (a0 : Int) :
    runF (O_impl_wrap N) N B_impl_wrap R_impl_wrap (vals T_impl_wrap a0) = F_impl_wrap N a0 := by kernel_rfl
def G_impl_wrap (a0 : Int) : Int :=
  (w64 (IntKind.wrap .i32 a0))
theorem FG_impl_wrap (N : Nat) (a0 : Int) : F_impl_wrap N a0 = some (G_impl_wrap a0) := by
  first | rfl | (simp only [F_impl_wrap, G_impl_wrap, cond_some]; done) | (unfold F_impl_wrap G_impl_wrap; simp only [cond_some]; done)
def o_impl_wrap : List V → Bool × V := mkO T_impl_wrap R_impl_wrap (fun (x : Int) => true) (fun (x : Int) => G_impl_wrap x)
theorem impl_wrap_entry : Entry Try.prog 123 o_impl_wrap := Entry.of fun (x : Int) _ =>
  Pf.of_run hm Try.func123 okFn_impl_wrap B_impl_wrap_ok B_impl_wrap_wf (O_impl_wrap_ok 0) rfl ((F_impl_wrap_run 0 x).trans (FG_impl_wrap 0 x))
/-! loop.example/g00526/impl.isWord -/
abbrev T_impl_isWord : List GT := [(.i .i64)]
abbrev R_impl_isWord : List GT := [.b]
def fin_impl_isWord : Fr2 → Hp → Option Bool := finF R_impl_isWord [.t 2]
def O_impl_isWord (N : Nat) : Orac := orc [(123, o_impl_wrap)] []
theorem O_impl_isWord_ok (N : Nat) : OrcOk Try.prog (O_impl_isWord N) := OrcOk.of ⟨impl_wrap_entry, trivial⟩ trivial
def τ_impl_isWord : Nat → Option GT := fun _ => none
def B_impl_isWord : F2 := ⟨7, 1, [.t 2], τ_impl_isWord,
    .seq (.reg .reg [.op (some 2) (.mov (.c (.b false)))])
    (.seq (.reg .reg [.op (some 3) (.mov (.t 0)),
      .op (some 4) (.mov (.t 0)),
      .op (some 5) (.call (.c (.f 123 [])) [.t 4]),
      .op (some 6) (.bin .eql (.t 3) (.t 5)),
      .op (some 2) (.mov (.t 6))])
    (.ret))⟩
theorem B_impl_isWord_ok : checkFn Try.prog Try.f97 B_impl_isWord.toA = true := by kernel_rfl
theorem B_impl_isWord_wf : B_impl_isWord.body.wf = true := by kernel_rfl
theorem okFn_impl_isWord : okFn Try.prog 97 = true := by kernel_rfl
def F_impl_isWord (N : Nat) (a0 : Int) : Option Bool :=
  some (ieq a0 (G_impl_wrap a0))
theorem F_impl_isWord_run (N : Nat) (a0 : Int) :
    runF (O_impl_isWord N) N B_impl_isWord R_impl_isWord (vals T_impl_isWord a0) = F_impl_isWord N a0 := by kernel_rfl
def G_impl_isWord (a0 : Int) : Bool :=
  (ieq a0 (G_impl_wrap a0))
theorem FG_impl_isWord (N : Nat) (a0 : Int) : F_impl_isWord N a0 = some (G_impl_isWord a0) := by
  first | rfl | (simp only [F_impl_isWord, G_impl_isWord, cond_some]; done) | (unfold F_impl_isWord G_impl_isWord; simp only [cond_some]; done)
def o_impl_isWord : List V → Bool × V := mkO T_impl_isWord R_impl_isWord (fun (x : Int) => true) (fun (x : Int) => G_impl_isWord x)
theorem impl_isWord_entry : Entry Try.prog 97 o_impl_isWord := Entry.of fun (x : Int) _ =>
  Pf.of_run hm Try.func97 okFn_impl_isWord B_impl_isWord_ok B_impl_isWord_wf (O_impl_isWord_ok 0) rfl ((F_impl_isWord_run 0 x).trans (FG_impl_isWord 0 x))
/-! loop.example/g00526/impl.areGiven$1 -/
abbrev T_impl_areGiven_c1 : List GT := [(.i .i64)]
abbrev R_impl_areGiven_c1 : List GT := [.b]
def fin_impl_areGiven_c1 : Fr2 → Hp → Option Bool := finF R_impl_areGiven_c1 [.t 2]
def O_impl_areGiven_c1 (N : Nat) : Orac := orc [(97, o_impl_isWord)] []
theorem O_impl_areGiven_c1_ok (N : Nat) : OrcOk Try.prog (O_impl_areGiven_c1 N) := OrcOk.of ⟨impl_isWord_entry, trivial⟩ trivial
def τ_impl_areGiven_c1 : Nat → Option GT := fun _ => none
def B_impl_areGiven_c1 : F2 := ⟨6, 1, [.t 2], τ_impl_areGiven_c1,
    .seq (.reg .reg [.op (some 2) (.mov (.c (.b false)))])
    (.seq (.reg .reg [.op (some 3) (.mov (.t 0)),
      .op (some 4) (.call (.c (.f 97 [])) [.t 3]),
      .op (some 5) (.un .not (.t 4)),
      .op (some 2) (.mov (.t 5))])
    (.ret))⟩
theorem B_impl_areGiven_c1_ok : checkFn Try.prog Try.f127 B_impl_areGiven_c1.toA = true := by kernel_rfl
theorem B_impl_areGiven_c1_wf : B_impl_areGiven_c1.body.wf = true := by kernel_rfl
theorem okFn_impl_areGiven_c1 : okFn Try.prog 127 = true := by kernel_rfl
def F_impl_areGiven_c1 (N : Nat) (a0 : Int) : Option Bool :=
  some (!(G_impl_isWord a0))
theorem F_impl_areGiven_c1_run (N : Nat) (a0 : Int) :
    runF (O_impl_areGiven_c1 N) N B_impl_areGiven_c1 R_impl_areGiven_c1 (vals T_impl_areGiven_c1 a0) = F_impl_areGiven_c1 N a0 := by kernel_rfl
def G_impl_areGiven_c1 (a0 : Int) : Bool :=
  (!(G_impl_isWord a0))
theorem FG_impl_areGiven_c1 (N : Nat) (a0 : Int) : F_impl_areGiven_c1 N a0 = some (G_impl_areGiven_c1 a0) := by
  first | rfl | (simp only [F_impl_areGiven_c1, G_impl_areGiven_c1, cond_some]; done) | (unfold F_impl_areGiven_c1 G_impl_areGiven_c1; simp only [cond_some]; done)
def o_impl_areGiven_c1 : List V → Bool × V := mkO T_impl_areGiven_c1 R_impl_areGiven_c1 (fun (x : Int) => true) (fun (x : Int) => G_impl_areGiven_c1 x)
theorem impl_areGiven_c1_entry : Entry Try.prog 127 o_impl_areGiven_c1 := Entry.of fun (x : Int) _ =>
  Pf.of_run hm Try.func127 okFn_impl_areGiven_c1 B_impl_areGiven_c1_ok B_impl_areGiven_c1_wf (O_impl_areGiven_c1_ok 0) rfl ((F_impl_areGiven_c1_run 0 x).trans (FG_impl_areGiven_c1 0 x))
/-! slices.IndexFunc[[]int64,int64] -/
abbrev T_slices_IndexFunc_int64_impl_areGiven_c1 : List GT := [(.sl (.i .i64)), (.fn 127 [])]
abbrev R_slices_IndexFunc_int64_impl_areGiven_c1 : List GT := [(.i .i64)]
def fin_slices_IndexFunc_int64_impl_areGiven_c1 : Fr2 → Hp → Option Int := finF R_slices_IndexFunc_int64_impl_areGiven_c1 [.t 4]
def O_slices_IndexFunc_int64_impl_areGiven_c1 (N : Nat) : Orac := orc [(127, o_impl_areGiven_c1)] []
theorem O_slices_IndexFunc_int64_impl_areGiven_c1_ok (N : Nat) : OrcOk Try.prog (O_slices_IndexFunc_int64_impl_areGiven_c1 N) := OrcOk.of ⟨impl_areGiven_c1_entry, trivial⟩ trivial
def c_slices_IndexFunc_int64_impl_areGiven_c1_1 : C2 :=
    .seq (.reg .reg [.op (some 9) (.bin .lss (.t 8) (.t 7))])
    (.seq (.cond (.t 9) (.skip)
    (.exit 0))
    (.seq (.block 1 (.seq (.reg .reg [.op (some 10) (.mov (.t 8)),
      .op (some 5) (.mov (.t 10))])
    (.seq (.reg .reg [.op (some 11) (.mov (.t 1)),
      .op (some 12) (.mov (.t 0)),
      .op (some 13) (.mov (.t 5)),
      .op (some 14) (.iad 1 (.t 12) (.t 13)),
      .op (some 15) (.load 1 false (.t 14)),
      .op (some 16) (.call (.t 11) [.t 15])])
    (.cond (.t 16) (.seq (.reg .reg [.op (some 17) (.mov (.t 5)),
      .op (some 4) (.mov (.t 17))])
    (.ret))
    (.skip)))))
    (.reg .reg [.op (some 18) (.bin .add (.t 8) (.c (.n .i64 1))),
      .op (some 8) (.mov (.t 18))])))
def c_slices_IndexFunc_int64_impl_areGiven_c1_2 : C2 :=
    .seq (.reg .reg [.op (some 4) (.mov (.c (.n .i64 (-1))))])
    (.ret)
def τ_slices_IndexFunc_int64_impl_areGiven_c1 : Nat → Option GT := fun _ => none
def B_slices_IndexFunc_int64_impl_areGiven_c1 : F2 := ⟨19, 2, [.t 4], τ_slices_IndexFunc_int64_impl_areGiven_c1,
    .seq (.reg .reg [.op (some 4) (.mov (.c (.n .i64 0)))])
    (.seq (.seq (.reg .reg [.op (some 6) (.mov (.t 0)),
      .op (some 7) (.len false (.t 6)),
      .op (some 8) (.mov (.c (.n .i64 0)))])
    (.block 0 (.loop [0, 1, 7, 8] [] [] c_slices_IndexFunc_int64_impl_areGiven_c1_1)))
    (c_slices_IndexFunc_int64_impl_areGiven_c1_2))⟩
theorem B_slices_IndexFunc_int64_impl_areGiven_c1_ok : checkFn Try.prog Try.f122 B_slices_IndexFunc_int64_impl_areGiven_c1.toA = true := by kernel_rfl
theorem B_slices_IndexFunc_int64_impl_areGiven_c1_wf : B_slices_IndexFunc_int64_impl_areGiven_c1.body.wf = true := by kernel_rfl
theorem okFn_slices_IndexFunc_int64_impl_areGiven_c1 : okFn Try.prog 122 = true := by kernel_rfl
def slices_IndexFunc_int64_impl_areGiven_c1_l1s (r0 : Int → Option Int) (k0_0 : Option Int) (N : Nat) (a0 : List Int) (pv7_1 : Int) (v8_1 : Int) : Option Int :=
  bif (ilt v8_1 pv7_1) then
    let x1 : Int := (a0.getD (v8_1.toNat) (0 : Int))
    chk (inb v8_1 (a0.length)) <|
    bif (G_impl_areGiven_c1 x1) then
      some v8_1
    else
      r0 (w64 (v8_1 + (1 : Int)))
  else
    k0_0
theorem slices_IndexFunc_int64_impl_areGiven_c1_l1s_run (N : Nat) (C0 : Fr2 → Hp → Option Int) (K0 : Option Nat → Fr2 → Hp → Option Int) (a0 : List Int) (pv7_1 : Int) (v8_1 : Int) :
    rcode (O_slices_IndexFunc_int64_impl_areGiven_c1 N) τ_slices_IndexFunc_int64_impl_areGiven_c1 N fin_slices_IndexFunc_int64_impl_areGiven_c1 c_slices_IndexFunc_int64_impl_areGiven_c1_1 [(0, .q (.i .i64) a0), (1, .f 127 []), (7, .n .i64 pv7_1), (8, .n .i64 v8_1)] ⟨1, []⟩ (roundK [0, 1, 7, 8] [] [] C0 K0) = slices_IndexFunc_int64_impl_areGiven_c1_l1s (fun v8_1 => C0 [(0, .q (.i .i64) a0), (1, .f 127 []), (7, .n .i64 pv7_1), (8, .n .i64 v8_1)] ⟨1, []⟩) (K0 (some 0) [] ⟨1, []⟩) N a0 pv7_1 v8_1 := by kernel_rfl
def slices_IndexFunc_int64_impl_areGiven_c1_x1_0 (N : Nat) : Option Int :=
  some (-1 : Int)
theorem slices_IndexFunc_int64_impl_areGiven_c1_x1_0_run (N : Nat)  :
    (blockK 0 (seqK' (fun fr H K => rcode (O_slices_IndexFunc_int64_impl_areGiven_c1 N) τ_slices_IndexFunc_int64_impl_areGiven_c1 N fin_slices_IndexFunc_int64_impl_areGiven_c1 c_slices_IndexFunc_int64_impl_areGiven_c1_2 fr H K) (finK R_slices_IndexFunc_int64_impl_areGiven_c1 [.t 4]))) (some 0) [] ⟨1, []⟩ = slices_IndexFunc_int64_impl_areGiven_c1_x1_0 N := by kernel_rfl
def slices_IndexFunc_int64_impl_areGiven_c1_l1 (k0_0 : Option Int) (N : Nat) (a0 : List Int) (pv7_1 : Int) : Nat → Int → Option Int
  | 0, _ => none
  | n + 1, v8_1 => slices_IndexFunc_int64_impl_areGiven_c1_l1s (slices_IndexFunc_int64_impl_areGiven_c1_l1 k0_0 N a0 pv7_1 n) k0_0 N a0 pv7_1 v8_1
def slices_IndexFunc_int64_impl_areGiven_c1_h1 (N : Nat) (a0 : List Int) (pv7_1 : Int) (v8_1 : Int) : Option Int :=
  slices_IndexFunc_int64_impl_areGiven_c1_l1 (slices_IndexFunc_int64_impl_areGiven_c1_x1_0 N) N a0 pv7_1 N v8_1
theorem slices_IndexFunc_int64_impl_areGiven_c1_l1_run (N : Nat)  (K : Option Nat → Fr2 → Hp → Option Int) (a0 : List Int) (pv7_1 : Int) : ∀ (n : Nat) (v8_1 : Int),
    rloop (fun fr H K => rcode (O_slices_IndexFunc_int64_impl_areGiven_c1 N) τ_slices_IndexFunc_int64_impl_areGiven_c1 N fin_slices_IndexFunc_int64_impl_areGiven_c1 c_slices_IndexFunc_int64_impl_areGiven_c1_1 fr H K) [0, 1, 7, 8] [] [] K n [(0, .q (.i .i64) a0), (1, .f 127 []), (7, .n .i64 pv7_1), (8, .n .i64 v8_1)] ⟨1, []⟩ = slices_IndexFunc_int64_impl_areGiven_c1_l1 (K (some 0) [] ⟨1, []⟩) N a0 pv7_1 n v8_1 := by
  intro n
  induction n with
  | zero => intro v8_1; kernel_rfl
  | succ n ih => intro v8_1; exact (slices_IndexFunc_int64_impl_areGiven_c1_l1s_run N (rloop (fun fr H K => rcode (O_slices_IndexFunc_int64_impl_areGiven_c1 N) τ_slices_IndexFunc_int64_impl_areGiven_c1 N fin_slices_IndexFunc_int64_impl_areGiven_c1 c_slices_IndexFunc_int64_impl_areGiven_c1_1 fr H K) [0, 1, 7, 8] [] [] K n) K a0 pv7_1 v8_1).trans (congrArg (fun r => slices_IndexFunc_int64_impl_areGiven_c1_l1s r (K (some 0) [] ⟨1, []⟩) N a0 pv7_1 v8_1) (funext fun v8_1 => ih v8_1))
theorem slices_IndexFunc_int64_impl_areGiven_c1_h1_run (N : Nat) (a0 : List Int) (pv7_1 : Int) (v8_1 : Int) : rloop (fun fr H K => rcode (O_slices_IndexFunc_int64_impl_areGiven_c1 N) τ_slices_IndexFunc_int64_impl_areGiven_c1 N fin_slices_IndexFunc_int64_impl_areGiven_c1 c_slices_IndexFunc_int64_impl_areGiven_c1_1 fr H K) [0, 1, 7, 8] [] [] (blockK 0 (seqK' (fun fr H K => rcode (O_slices_IndexFunc_int64_impl_areGiven_c1 N) τ_slices_IndexFunc_int64_impl_areGiven_c1 N fin_slices_IndexFunc_int64_impl_areGiven_c1 c_slices_IndexFunc_int64_impl_areGiven_c1_2 fr H K) (finK R_slices_IndexFunc_int64_impl_areGiven_c1 [.t 4]))) N [(0, .q (.i .i64) a0), (1, .f 127 []), (7, .n .i64 pv7_1), (8, .n .i64 v8_1)] ⟨1, []⟩ = slices_IndexFunc_int64_impl_areGiven_c1_h1 N a0 pv7_1 v8_1 :=
  ((slices_IndexFunc_int64_impl_areGiven_c1_l1_run N (blockK 0 (seqK' (fun fr H K => rcode (O_slices_IndexFunc_int64_impl_areGiven_c1 N) τ_slices_IndexFunc_int64_impl_areGiven_c1 N fin_slices_IndexFunc_int64_impl_areGiven_c1 c_slices_IndexFunc_int64_impl_areGiven_c1_2 fr H K) (finK R_slices_IndexFunc_int64_impl_areGiven_c1 [.t 4]))) a0 pv7_1 N v8_1)).trans (congrArg (fun h => slices_IndexFunc_int64_impl_areGiven_c1_l1 h N a0 pv7_1 N v8_1) (slices_IndexFunc_int64_impl_areGiven_c1_x1_0_run N ))
def F_slices_IndexFunc_int64_impl_areGiven_c1R (N : Nat) (slices_IndexFunc_int64_impl_areGiven_c1_h1 : List Int → Int → Int → Option Int) (a0 : List Int) (a1 : Unit) : Option Int :=
  slices_IndexFunc_int64_impl_areGiven_c1_h1 a0 ((a0.length) : Int) (0 : Int)
def F_slices_IndexFunc_int64_impl_areGiven_c1 (N : Nat) (a0 : List Int) (a1 : Unit) : Option Int := F_slices_IndexFunc_int64_impl_areGiven_c1R N (slices_IndexFunc_int64_impl_areGiven_c1_h1 N) a0 a1
theorem F_slices_IndexFunc_int64_impl_areGiven_c1_raw (N : Nat) (a0 : List Int) (a1 : Unit) :
    runF (O_slices_IndexFunc_int64_impl_areGiven_c1 N) N B_slices_IndexFunc_int64_impl_areGiven_c1 R_slices_IndexFunc_int64_impl_areGiven_c1 (vals T_slices_IndexFunc_int64_impl_areGiven_c1 (a0, a1)) = F_slices_IndexFunc_int64_impl_areGiven_c1R N (fun a0 pv7_1 v8_1 => rloop (fun fr H K => rcode (O_slices_IndexFunc_int64_impl_areGiven_c1 N) τ_slices_IndexFunc_int64_impl_areGiven_c1 N fin_slices_IndexFunc_int64_impl_areGiven_c1 c_slices_IndexFunc_int64_impl_areGiven_c1_1 fr H K) [0, 1, 7, 8] [] [] (blockK 0 (seqK' (fun fr H K => rcode (O_slices_IndexFunc_int64_impl_areGiven_c1 N) τ_slices_IndexFunc_int64_impl_areGiven_c1 N fin_slices_IndexFunc_int64_impl_areGiven_c1 c_slices_IndexFunc_int64_impl_areGiven_c1_2 fr H K) (finK R_slices_IndexFunc_int64_impl_areGiven_c1 [.t 4]))) N [(0, .q (.i .i64) a0), (1, .f 127 []), (7, .n .i64 pv7_1), (8, .n .i64 v8_1)] ⟨1, []⟩) a0 a1 := by kernel_rfl
theorem F_slices_IndexFunc_int64_impl_areGiven_c1_run (N : Nat) (a0 : List Int) (a1 : Unit) :
    runF (O_slices_IndexFunc_int64_impl_areGiven_c1 N) N B_slices_IndexFunc_int64_impl_areGiven_c1 R_slices_IndexFunc_int64_impl_areGiven_c1 (vals T_slices_IndexFunc_int64_impl_areGiven_c1 (a0, a1)) = F_slices_IndexFunc_int64_impl_areGiven_c1 N a0 a1 :=
  (F_slices_IndexFunc_int64_impl_areGiven_c1_raw N a0 a1).trans (congrArg (fun h => F_slices_IndexFunc_int64_impl_areGiven_c1R N h a0 a1) (funext fun a0 => funext fun pv7_1 => funext fun v8_1 => slices_IndexFunc_int64_impl_areGiven_c1_h1_run N a0 pv7_1 v8_1))
def P_slices_IndexFunc_int64_impl_areGiven_c1 (N : Nat) (a0 : List Int) (a1 : Unit) : Bool := lock (F_slices_IndexFunc_int64_impl_areGiven_c1 N a0 a1).isSome
def G_slices_IndexFunc_int64_impl_areGiven_c1 (N : Nat) (a0 : List Int) (a1 : Unit) : Int := lock ((F_slices_IndexFunc_int64_impl_areGiven_c1 N a0 a1).getD (0 : Int))
theorem FG_slices_IndexFunc_int64_impl_areGiven_c1 {N : Nat} (a0 : List Int) (a1 : Unit) (h : P_slices_IndexFunc_int64_impl_areGiven_c1 N a0 a1 = true) : F_slices_IndexFunc_int64_impl_areGiven_c1 N a0 a1 = some (G_slices_IndexFunc_int64_impl_areGiven_c1 N a0 a1) := by unfold P_slices_IndexFunc_int64_impl_areGiven_c1 at h; unfold G_slices_IndexFunc_int64_impl_areGiven_c1; rw [lock_eq] at h ⊢; exact some_of_isSome h
theorem PG_slices_IndexFunc_int64_impl_areGiven_c1 {N : Nat} {a0 : List Int} {a1 : Unit} {v : Int} (h : F_slices_IndexFunc_int64_impl_areGiven_c1 N a0 a1 = some v) : P_slices_IndexFunc_int64_impl_areGiven_c1 N a0 a1 = true ∧ G_slices_IndexFunc_int64_impl_areGiven_c1 N a0 a1 = v := by unfold P_slices_IndexFunc_int64_impl_areGiven_c1 G_slices_IndexFunc_int64_impl_areGiven_c1; rw [h, lock_eq, lock_eq]; exact ⟨rfl, rfl⟩
def o_slices_IndexFunc_int64_impl_areGiven_c1 (N : Nat) : List V → Bool × V := mkO T_slices_IndexFunc_int64_impl_areGiven_c1 R_slices_IndexFunc_int64_impl_areGiven_c1 (fun (x : (List Int × Unit)) => P_slices_IndexFunc_int64_impl_areGiven_c1 N x.1 x.2) (fun (x : (List Int × Unit)) => G_slices_IndexFunc_int64_impl_areGiven_c1 N x.1 x.2)
theorem slices_IndexFunc_int64_impl_areGiven_c1_entry (N : Nat) : Entry Try.prog 122 (o_slices_IndexFunc_int64_impl_areGiven_c1 N) := Entry.of fun (x : (List Int × Unit)) h =>
  Pf.of_run hm Try.func122 okFn_slices_IndexFunc_int64_impl_areGiven_c1 B_slices_IndexFunc_int64_impl_areGiven_c1_ok B_slices_IndexFunc_int64_impl_areGiven_c1_wf (O_slices_IndexFunc_int64_impl_areGiven_c1_ok N) rfl ((F_slices_IndexFunc_int64_impl_areGiven_c1_run N x.1 x.2).trans (FG_slices_IndexFunc_int64_impl_areGiven_c1 x.1 x.2 h))
/-! slices.ContainsFunc[[]int64,int64] -/
abbrev T_slices_ContainsFunc_int64_impl_areGiven_c1 : List GT := [(.sl (.i .i64)), (.fn 127 [])]
abbrev R_slices_ContainsFunc_int64_impl_areGiven_c1 : List GT := [.b]
def fin_slices_ContainsFunc_int64_impl_areGiven_c1 : Fr2 → Hp → Option Bool := finF R_slices_ContainsFunc_int64_impl_areGiven_c1 [.t 4]
def O_slices_ContainsFunc_int64_impl_areGiven_c1 (N : Nat) : Orac := orc [(122, o_slices_IndexFunc_int64_impl_areGiven_c1 N)] []
theorem O_slices_ContainsFunc_int64_impl_areGiven_c1_ok (N : Nat) : OrcOk Try.prog (O_slices_ContainsFunc_int64_impl_areGiven_c1 N) := OrcOk.of ⟨slices_IndexFunc_int64_impl_areGiven_c1_entry N, trivial⟩ trivial
def τ_slices_ContainsFunc_int64_impl_areGiven_c1 : Nat → Option GT := fun _ => none
def B_slices_ContainsFunc_int64_impl_areGiven_c1 : F2 := ⟨9, 2, [.t 4], τ_slices_ContainsFunc_int64_impl_areGiven_c1,
    .seq (.reg .reg [.op (some 4) (.mov (.c (.b false)))])
    (.seq (.reg .reg [.op (some 5) (.mov (.t 0)),
      .op (some 6) (.mov (.t 1)),
      .op (some 7) (.call (.c (.f 122 [])) [.t 5, .t 6]),
      .op (some 8) (.bin .geq (.t 7) (.c (.n .i64 0))),
      .op (some 4) (.mov (.t 8))])
    (.ret))⟩
theorem B_slices_ContainsFunc_int64_impl_areGiven_c1_ok : checkFn Try.prog Try.f95 B_slices_ContainsFunc_int64_impl_areGiven_c1.toA = true := by kernel_rfl
theorem B_slices_ContainsFunc_int64_impl_areGiven_c1_wf : B_slices_ContainsFunc_int64_impl_areGiven_c1.body.wf = true := by kernel_rfl
theorem okFn_slices_ContainsFunc_int64_impl_areGiven_c1 : okFn Try.prog 95 = true := by kernel_rfl
def F_slices_ContainsFunc_int64_impl_areGiven_c1 (N : Nat) (a0 : List Int) (a1 : Unit) : Option Bool :=
  chk (P_slices_IndexFunc_int64_impl_areGiven_c1 N a0 ()) <|
  some (ile (0 : Int) (G_slices_IndexFunc_int64_impl_areGiven_c1 N a0 ()))
theorem F_slices_ContainsFunc_int64_impl_areGiven_c1_run (N : Nat) (a0 : List Int) (a1 : Unit) :
    runF (O_slices_ContainsFunc_int64_impl_areGiven_c1 N) N B_slices_ContainsFunc_int64_impl_areGiven_c1 R_slices_ContainsFunc_int64_impl_areGiven_c1 (vals T_slices_ContainsFunc_int64_impl_areGiven_c1 (a0, a1)) = F_slices_ContainsFunc_int64_impl_areGiven_c1 N a0 a1 := by kernel_rfl
def P_slices_ContainsFunc_int64_impl_areGiven_c1 (N : Nat) (a0 : List Int) (a1 : Unit) : Bool := lock (F_slices_ContainsFunc_int64_impl_areGiven_c1 N a0 a1).isSome
def G_slices_ContainsFunc_int64_impl_areGiven_c1 (N : Nat) (a0 : List Int) (a1 : Unit) : Bool := lock ((F_slices_ContainsFunc_int64_impl_areGiven_c1 N a0 a1).getD false)
theorem FG_slices_ContainsFunc_int64_impl_areGiven_c1 {N : Nat} (a0 : List Int) (a1 : Unit) (h : P_slices_ContainsFunc_int64_impl_areGiven_c1 N a0 a1 = true) : F_slices_ContainsFunc_int64_impl_areGiven_c1 N a0 a1 = some (G_slices_ContainsFunc_int64_impl_areGiven_c1 N a0 a1) := by unfold P_slices_ContainsFunc_int64_impl_areGiven_c1 at h; unfold G_slices_ContainsFunc_int64_impl_areGiven_c1; rw [lock_eq] at h ⊢; exact some_of_isSome h
theorem PG_slices_ContainsFunc_int64_impl_areGiven_c1 {N : Nat} {a0 : List Int} {a1 : Unit} {v : Bool} (h : F_slices_ContainsFunc_int64_impl_areGiven_c1 N a0 a1 = some v) : P_slices_ContainsFunc_int64_impl_areGiven_c1 N a0 a1 = true ∧ G_slices_ContainsFunc_int64_impl_areGiven_c1 N a0 a1 = v := by unfold P_slices_ContainsFunc_int64_impl_areGiven_c1 G_slices_ContainsFunc_int64_impl_areGiven_c1; rw [h, lock_eq, lock_eq]; exact ⟨rfl, rfl⟩
def o_slices_ContainsFunc_int64_impl_areGiven_c1 (N : Nat) : List V → Bool × V := mkO T_slices_ContainsFunc_int64_impl_areGiven_c1 R_slices_ContainsFunc_int64_impl_areGiven_c1 (fun (x : (List Int × Unit)) => P_slices_ContainsFunc_int64_impl_areGiven_c1 N x.1 x.2) (fun (x : (List Int × Unit)) => G_slices_ContainsFunc_int64_impl_areGiven_c1 N x.1 x.2)
theorem slices_ContainsFunc_int64_impl_areGiven_c1_entry (N : Nat) : Entry Try.prog 95 (o_slices_ContainsFunc_int64_impl_areGiven_c1 N) := Entry.of fun (x : (List Int × Unit)) h =>
  Pf.of_run hm Try.func95 okFn_slices_ContainsFunc_int64_impl_areGiven_c1 B_slices_ContainsFunc_int64_impl_areGiven_c1_ok B_slices_ContainsFunc_int64_impl_areGiven_c1_wf (O_slices_ContainsFunc_int64_impl_areGiven_c1_ok N) rfl ((F_slices_ContainsFunc_int64_impl_areGiven_c1_run N x.1 x.2).trans (FG_slices_ContainsFunc_int64_impl_areGiven_c1 x.1 x.2 h))
/-! loop.example/g00526/impl.areGiven -/
abbrev T_impl_areGiven : List GT := [(.sl (.i .i64))]
abbrev R_impl_areGiven : List GT := [.b]
def fin_impl_areGiven : Fr2 → Hp → Option Bool := finF R_impl_areGiven [.t 2]
def O_impl_areGiven (N : Nat) : Orac := orc [(95, o_slices_ContainsFunc_int64_impl_areGiven_c1 N)] []
theorem O_impl_areGiven_ok (N : Nat) : OrcOk Try.prog (O_impl_areGiven N) := OrcOk.of ⟨slices_ContainsFunc_int64_impl_areGiven_c1_entry N, trivial⟩ trivial
def τ_impl_areGiven : Nat → Option GT := fun _ => none
def B_impl_areGiven : F2 := ⟨11, 1, [.t 2], τ_impl_areGiven,
    .seq (.reg .reg [.op (some 2) (.mov (.c (.b false)))])
    (.seq (.reg .reg [.op (some 3) (.mov (.t 0)),
      .op (some 4) (.len false (.t 3)),
      .op (some 5) (.bin .eql (.t 4) (.c (.n .i64 3))),
      .op (some 6) (.mov (.t 5)),
      .br 6 true [.op (some 7) (.mov (.t 0)), .op (some 8) (.call (.c (.f 95 [])) [.t 7, .c (.f 127 [])]), .op (some 9) (.un .not (.t 8))] [7, 8, 9] 10 9,
      .op (some 2) (.mov (.t 10))])
    (.ret))⟩
theorem B_impl_areGiven_ok : checkFn Try.prog Try.f105 B_impl_areGiven.toA = true := by kernel_rfl
theorem B_impl_areGiven_wf : B_impl_areGiven.body.wf = true := by kernel_rfl
theorem okFn_impl_areGiven : okFn Try.prog 105 = true := by kernel_rfl
def F_impl_areGiven (N : Nat) (a0 : List Int) : Option Bool :=
  chk ((P_slices_ContainsFunc_int64_impl_areGiven_c1 N a0 ()) || (!(ieq ((a0.length) : Int) (3 : Int)))) <|
  some ((ieq ((a0.length) : Int) (3 : Int)) && (!(G_slices_ContainsFunc_int64_impl_areGiven_c1 N a0 ())))
theorem F_impl_areGiven_run (N : Nat) (a0 : List Int) :
    runF (O_impl_areGiven N) N B_impl_areGiven R_impl_areGiven (vals T_impl_areGiven a0) = F_impl_areGiven N a0 := by kernel_rfl
def P_impl_areGiven (N : Nat) (a0 : List Int) : Bool := lock (F_impl_areGiven N a0).isSome
def G_impl_areGiven (N : Nat) (a0 : List Int) : Bool := lock ((F_impl_areGiven N a0).getD false)
theorem FG_impl_areGiven {N : Nat} (a0 : List Int) (h : P_impl_areGiven N a0 = true) : F_impl_areGiven N a0 = some (G_impl_areGiven N a0) := by unfold P_impl_areGiven at h; unfold G_impl_areGiven; rw [lock_eq] at h ⊢; exact some_of_isSome h
theorem PG_impl_areGiven {N : Nat} {a0 : List Int} {v : Bool} (h : F_impl_areGiven N a0 = some v) : P_impl_areGiven N a0 = true ∧ G_impl_areGiven N a0 = v := by unfold P_impl_areGiven G_impl_areGiven; rw [h, lock_eq, lock_eq]; exact ⟨rfl, rfl⟩
def o_impl_areGiven (N : Nat) : List V → Bool × V := mkO T_impl_areGiven R_impl_areGiven (fun (x : List Int) => P_impl_areGiven N x) (fun (x : List Int) => G_impl_areGiven N x)
theorem impl_areGiven_entry (N : Nat) : Entry Try.prog 105 (o_impl_areGiven N) := Entry.of fun (x : List Int) h =>
  Pf.of_run hm Try.func105 okFn_impl_areGiven B_impl_areGiven_ok B_impl_areGiven_wf (O_impl_areGiven_ok N) rfl ((F_impl_areGiven_run N x).trans (FG_impl_areGiven x h))
/-! loop.example/g00526/impl.within -/
abbrev T_impl_within : List GT := [(.i .i64), (.i .i64), (.i .i64)]
abbrev R_impl_within : List GT := [.b]
def fin_impl_within : Fr2 → Hp → Option Bool := finF R_impl_within [.t 6]
def O_impl_within (N : Nat) : Orac := orc [] []
theorem O_impl_within_ok (N : Nat) : OrcOk Try.prog (O_impl_within N) := OrcOk.of trivial trivial
def τ_impl_within : Nat → Option GT := fun _ => none
def B_impl_within : F2 := ⟨15, 3, [.t 6], τ_impl_within,
    .seq (.reg .reg [.op (some 6) (.mov (.c (.b false)))])
    (.seq (.reg .reg [.op (some 7) (.mov (.t 0)),
      .op (some 8) (.mov (.t 1)),
      .op (some 9) (.bin .geq (.t 7) (.t 8)),
      .op (some 10) (.mov (.t 9)),
      .br 10 true [.op (some 11) (.mov (.t 0)), .op (some 12) (.mov (.t 2)), .op (some 13) (.bin .leq (.t 11) (.t 12))] [11, 12, 13] 14 13,
      .op (some 6) (.mov (.t 14))])
    (.ret))⟩
theorem B_impl_within_ok : checkFn Try.prog Try.f49 B_impl_within.toA = true := by kernel_rfl
theorem B_impl_within_wf : B_impl_within.body.wf = true := by kernel_rfl
theorem okFn_impl_within : okFn Try.prog 49 = true := by kernel_rfl
def F_impl_within (N : Nat) (a0 : Int) (a1 : Int) (a2 : Int) : Option Bool :=
  some ((ile a1 a0) && (ile a0 a2))
theorem F_impl_within_run (N : Nat) (a0 : Int) (a1 : Int) (a2 : Int) :
    runF (O_impl_within N) N B_impl_within R_impl_within (vals T_impl_within (a0, a1, a2)) = F_impl_within N a0 a1 a2 := by kernel_rfl
def G_impl_within (a0 : Int) (a1 : Int) (a2 : Int) : Bool :=
  ((ile a1 a0) && (ile a0 a2))
theorem FG_impl_within (N : Nat) (a0 : Int) (a1 : Int) (a2 : Int) : F_impl_within N a0 a1 a2 = some (G_impl_within a0 a1 a2) := by
  first | rfl | (simp only [F_impl_within, G_impl_within, cond_some]; done) | (unfold F_impl_within G_impl_within; simp only [cond_some]; done)
def o_impl_within : List V → Bool × V := mkO T_impl_within R_impl_within (fun (x : (Int × Int × Int)) => true) (fun (x : (Int × Int × Int)) => G_impl_within x.1 x.2.1 x.2.2)
theorem impl_within_entry : Entry Try.prog 49 o_impl_within := Entry.of fun (x : (Int × Int × Int)) _ =>
  Pf.of_run hm Try.func49 okFn_impl_within B_impl_within_ok B_impl_within_wf (O_impl_within_ok 0) rfl ((F_impl_within_run 0 x.1 x.2.1 x.2.2).trans (FG_impl_within 0 x.1 x.2.1 x.2.2))
/-! loop.example/g00526/impl.isName -/
abbrev T_impl_isName : List GT := [.s]
abbrev R_impl_isName : List GT := [.b]
def fin_impl_isName : Fr2 → Hp → Option Bool := finF R_impl_isName [.t 2]
def O_impl_isName (N : Nat) : Orac := orc [] []
theorem O_impl_isName_ok (N : Nat) : OrcOk Try.prog (O_impl_isName N) := OrcOk.of trivial trivial
def c_impl_isName_1 : C2 :=
    .seq (.reg .reg [.op (some 7) (.bin .lss (.t 6) (.t 5))])
    (.seq (.cond (.t 7) (.skip)
    (.exit 0))
    (.seq (.block 1 (.seq (.reg .reg [.op (some 8) (.mov (.t 6)),
      .op (some 3) (.mov (.t 8))])
    (.seq (.reg .reg [.op (some 9) (.mov (.t 0)),
      .op (some 10) (.mov (.t 3)),
      .op (some 11) (.idx (.t 9) (.t 10)),
      .op (some 12) (.bin .lss (.t 11) (.c (.n .u8 97))),
      .op (some 13) (.mov (.t 12)),
      .br 13 false [.op (some 14) (.mov (.t 0)), .op (some 15) (.mov (.t 3)), .op (some 16) (.idx (.t 14) (.t 15)), .op (some 17) (.bin .gtr (.t 16) (.c (.n .u8 122)))] [14, 15, 16, 17] 18 17])
    (.cond (.t 18) (.seq (.reg .reg [.op (some 2) (.mov (.c (.b false)))])
    (.ret))
    (.skip)))))
    (.reg .reg [.op (some 19) (.bin .add (.t 6) (.c (.n .i64 1))),
      .op (some 6) (.mov (.t 19))])))
def c_impl_isName_2 : C2 :=
    .seq (.reg .reg [.op (some 20) (.mov (.t 0)),
      .op (some 21) (.len true (.t 20)),
      .op (some 22) (.bin .geq (.t 21) (.c (.n .i64 1))),
      .op (some 23) (.mov (.t 22)),
      .br 23 true [.op (some 24) (.mov (.t 0)), .op (some 25) (.len true (.t 24)), .op (some 26) (.bin .leq (.t 25) (.c (.n .i64 8)))] [24, 25, 26] 27 26,
      .op (some 2) (.mov (.t 27))])
    (.ret)
def τ_impl_isName : Nat → Option GT := fun _ => none
def B_impl_isName : F2 := ⟨28, 1, [.t 2], τ_impl_isName,
    .seq (.reg .reg [.op (some 2) (.mov (.c (.b false)))])
    (.seq (.seq (.reg .reg [.op (some 4) (.mov (.t 0)),
      .op (some 5) (.len true (.t 4)),
      .op (some 6) (.mov (.c (.n .i64 0)))])
    (.block 0 (.loop [0, 5, 6] [] [0] c_impl_isName_1)))
    (c_impl_isName_2))⟩
theorem B_impl_isName_ok : checkFn Try.prog Try.f98 B_impl_isName.toA = true := by kernel_rfl
theorem B_impl_isName_wf : B_impl_isName.body.wf = true := by kernel_rfl
theorem okFn_impl_isName : okFn Try.prog 98 = true := by kernel_rfl
def impl_isName_l1s (r0 : Int → Option Bool) (k0_0 : Option Bool) (N : Nat) (a0 : ByteArray) (pv5_1 : Int) (v6_1 : Int) : Option Bool :=
  bif (ilt v6_1 pv5_1) then
    chk (inb v6_1 a0.size) <|
    chk ((inb v6_1 a0.size) || (ilt ((a0[(v6_1.toNat)]!).toNat : Int) (97 : Int))) <|
    bif ((ilt ((a0[(v6_1.toNat)]!).toNat : Int) (97 : Int)) || (ilt (122 : Int) ((a0[(v6_1.toNat)]!).toNat : Int))) then
      some false
    else
      r0 (w64 (v6_1 + (1 : Int)))
  else
    k0_0
theorem impl_isName_l1s_run (N : Nat) (C0 : Fr2 → Hp → Option Bool) (K0 : Option Nat → Fr2 → Hp → Option Bool) (a0 : ByteArray) (pv5_1 : Int) (v6_1 : Int) :
    rcode (O_impl_isName N) τ_impl_isName N fin_impl_isName c_impl_isName_1 [(0, .s a0), (5, .n .i64 pv5_1), (6, .n .i64 v6_1)] ⟨1, []⟩ (roundK [0, 5, 6] [] [0] C0 K0) = impl_isName_l1s (fun v6_1 => C0 [(0, .s a0), (5, .n .i64 pv5_1), (6, .n .i64 v6_1)] ⟨1, []⟩) (K0 (some 0) [(0, .s a0)] ⟨1, []⟩) N a0 pv5_1 v6_1 := by kernel_rfl
def impl_isName_x1_0 (N : Nat) (a0 : ByteArray) : Option Bool :=
  some ((ile (1 : Int) (a0.size : Int)) && (ile (a0.size : Int) (8 : Int)))
theorem impl_isName_x1_0_run (N : Nat) (a0 : ByteArray) :
    (blockK 0 (seqK' (fun fr H K => rcode (O_impl_isName N) τ_impl_isName N fin_impl_isName c_impl_isName_2 fr H K) (finK R_impl_isName [.t 2]))) (some 0) [(0, .s a0)] ⟨1, []⟩ = impl_isName_x1_0 N a0 := by kernel_rfl
def impl_isName_l1 (k0_0 : Option Bool) (N : Nat) (a0 : ByteArray) (pv5_1 : Int) : Nat → Int → Option Bool
  | 0, _ => none
  | n + 1, v6_1 => impl_isName_l1s (impl_isName_l1 k0_0 N a0 pv5_1 n) k0_0 N a0 pv5_1 v6_1
def impl_isName_h1 (N : Nat) (a0 : ByteArray) (pv5_1 : Int) (v6_1 : Int) : Option Bool :=
  impl_isName_l1 (impl_isName_x1_0 N a0) N a0 pv5_1 N v6_1
theorem impl_isName_l1_run (N : Nat)  (K : Option Nat → Fr2 → Hp → Option Bool) (a0 : ByteArray) (pv5_1 : Int) : ∀ (n : Nat) (v6_1 : Int),
    rloop (fun fr H K => rcode (O_impl_isName N) τ_impl_isName N fin_impl_isName c_impl_isName_1 fr H K) [0, 5, 6] [] [0] K n [(0, .s a0), (5, .n .i64 pv5_1), (6, .n .i64 v6_1)] ⟨1, []⟩ = impl_isName_l1 (K (some 0) [(0, .s a0)] ⟨1, []⟩) N a0 pv5_1 n v6_1 := by
  intro n
  induction n with
  | zero => intro v6_1; kernel_rfl
  | succ n ih => intro v6_1; exact (impl_isName_l1s_run N (rloop (fun fr H K => rcode (O_impl_isName N) τ_impl_isName N fin_impl_isName c_impl_isName_1 fr H K) [0, 5, 6] [] [0] K n) K a0 pv5_1 v6_1).trans (congrArg (fun r => impl_isName_l1s r (K (some 0) [(0, .s a0)] ⟨1, []⟩) N a0 pv5_1 v6_1) (funext fun v6_1 => ih v6_1))
theorem impl_isName_h1_run (N : Nat) (a0 : ByteArray) (pv5_1 : Int) (v6_1 : Int) : rloop (fun fr H K => rcode (O_impl_isName N) τ_impl_isName N fin_impl_isName c_impl_isName_1 fr H K) [0, 5, 6] [] [0] (blockK 0 (seqK' (fun fr H K => rcode (O_impl_isName N) τ_impl_isName N fin_impl_isName c_impl_isName_2 fr H K) (finK R_impl_isName [.t 2]))) N [(0, .s a0), (5, .n .i64 pv5_1), (6, .n .i64 v6_1)] ⟨1, []⟩ = impl_isName_h1 N a0 pv5_1 v6_1 :=
  ((impl_isName_l1_run N (blockK 0 (seqK' (fun fr H K => rcode (O_impl_isName N) τ_impl_isName N fin_impl_isName c_impl_isName_2 fr H K) (finK R_impl_isName [.t 2]))) a0 pv5_1 N v6_1)).trans (congrArg (fun h => impl_isName_l1 h N a0 pv5_1 N v6_1) (impl_isName_x1_0_run N a0))
def F_impl_isNameR (N : Nat) (impl_isName_h1 : ByteArray → Int → Int → Option Bool) (a0 : ByteArray) : Option Bool :=
  impl_isName_h1 a0 (a0.size : Int) (0 : Int)
def F_impl_isName (N : Nat) (a0 : ByteArray) : Option Bool := F_impl_isNameR N (impl_isName_h1 N) a0
theorem F_impl_isName_raw (N : Nat) (a0 : ByteArray) :
    runF (O_impl_isName N) N B_impl_isName R_impl_isName (vals T_impl_isName a0) = F_impl_isNameR N (fun a0 pv5_1 v6_1 => rloop (fun fr H K => rcode (O_impl_isName N) τ_impl_isName N fin_impl_isName c_impl_isName_1 fr H K) [0, 5, 6] [] [0] (blockK 0 (seqK' (fun fr H K => rcode (O_impl_isName N) τ_impl_isName N fin_impl_isName c_impl_isName_2 fr H K) (finK R_impl_isName [.t 2]))) N [(0, .s a0), (5, .n .i64 pv5_1), (6, .n .i64 v6_1)] ⟨1, []⟩) a0 := by kernel_rfl
theorem F_impl_isName_run (N : Nat) (a0 : ByteArray) :
    runF (O_impl_isName N) N B_impl_isName R_impl_isName (vals T_impl_isName a0) = F_impl_isName N a0 :=
  (F_impl_isName_raw N a0).trans (congrArg (fun h => F_impl_isNameR N h a0) (funext fun a0 => funext fun pv5_1 => funext fun v6_1 => impl_isName_h1_run N a0 pv5_1 v6_1))
def P_impl_isName (N : Nat) (a0 : ByteArray) : Bool := lock (F_impl_isName N a0).isSome
def G_impl_isName (N : Nat) (a0 : ByteArray) : Bool := lock ((F_impl_isName N a0).getD false)
theorem FG_impl_isName {N : Nat} (a0 : ByteArray) (h : P_impl_isName N a0 = true) : F_impl_isName N a0 = some (G_impl_isName N a0) := by unfold P_impl_isName at h; unfold G_impl_isName; rw [lock_eq] at h ⊢; exact some_of_isSome h
theorem PG_impl_isName {N : Nat} {a0 : ByteArray} {v : Bool} (h : F_impl_isName N a0 = some v) : P_impl_isName N a0 = true ∧ G_impl_isName N a0 = v := by unfold P_impl_isName G_impl_isName; rw [h, lock_eq, lock_eq]; exact ⟨rfl, rfl⟩
def o_impl_isName (N : Nat) : List V → Bool × V := mkO T_impl_isName R_impl_isName (fun (x : ByteArray) => P_impl_isName N x) (fun (x : ByteArray) => G_impl_isName N x)
theorem impl_isName_entry (N : Nat) : Entry Try.prog 98 (o_impl_isName N) := Entry.of fun (x : ByteArray) h =>
  Pf.of_run hm Try.func98 okFn_impl_isName B_impl_isName_ok B_impl_isName_wf (O_impl_isName_ok N) rfl ((F_impl_isName_run N x).trans (FG_impl_isName x h))
/-! loop.example/g00526/impl.isOrder -/
abbrev T_impl_isOrder : List GT := [tOrder]
abbrev R_impl_isOrder : List GT := [.b]
def fin_impl_isOrder : Fr2 → Hp → Option Bool := finF R_impl_isOrder [.t 2]
def O_impl_isOrder (N : Nat) : Orac := orc [(104, o_strings_Contains), (97, o_impl_isWord), (105, o_impl_areGiven N), (49, o_impl_within), (98, o_impl_isName N)] []
theorem O_impl_isOrder_ok (N : Nat) : OrcOk Try.prog (O_impl_isOrder N) := OrcOk.of ⟨strings_Contains_entry, impl_isWord_entry, impl_areGiven_entry N, impl_within_entry, impl_isName_entry N, trivial⟩ trivial
def c_impl_isOrder_1 : C2 :=
    .seq (.reg .reg [.op (some 61) (.mov (.t 3)),
      .op (some 62) (.call (.c (.f 49 [])) [.t 61, .c (.n .i64 1), .c (.n .i64 6)]),
      .op (some 63) (.mov (.t 62)),
      .br 63 true [.op (some 64) (.fad 1 (.t 1)), .op (some 65) (.load 1 false (.t 64)), .op (some 66) (.call (.c (.f 49 [])) [.t 65, .c (.n .i64 0), .c (.n .i64 3)])] [64, 65, 66] 67 66,
      .op (some 68) (.mov (.t 67)),
      .br 68 true [.op (some 69) (.fad 2 (.t 1)), .op (some 70) (.load 1 false (.t 69)), .op (some 71) (.call (.c (.f 49 [])) [.t 70, .c (.n .i64 1), .c (.n .i64 100)])] [69, 70, 71] 72 71,
      .op (some 73) (.mov (.t 72)),
      .br 73 true [.op (some 74) (.fad 4 (.t 1)), .op (some 75) (.load 1 false (.t 74)), .op (some 76) (.call (.c (.f 98 [])) [.t 75])] [74, 75, 76] 77 76,
      .op (some 78) (.mov (.t 77)),
      .br 78 true [.op (some 79) (.mov (.t 4))] [79] 80 79,
      .op (some 81) (.mov (.t 80)),
      .br 81 true [.op (some 82) (.mov (.t 5))] [82] 83 82,
      .op (some 84) (.mov (.t 83)),
      .br 84 true [.op (some 85) (.mov (.t 6))] [85] 86 85,
      .op (some 87) (.mov (.t 86)),
      .br 87 true [.op (some 88) (.mov (.t 7))] [88] 89 88,
      .op (some 90) (.mov (.t 89)),
      .br 90 true [.op (some 91) (.mov (.t 8))] [91] 92 91,
      .op (some 2) (.mov (.t 92))])
    (.ret)
def c_impl_isOrder_2 : C2 :=
    .seq (.norm [1, 3, 4, 5, 6, 7, 8] [] (.seq (.reg .reg [.op (some 56) (.mov (.t 3)),
      .op (some 57) (.bin .eql (.t 56) (.c (.n .i64 5)))])
    (.cond (.t 57) (.reg .reg [.op (some 58) (.fad 7 (.t 1)),
      .op (some 59) (.load 1 false (.t 58)),
      .op (some 60) (.call (.c (.f 105 [])) [.t 59]),
      .op (some 7) (.mov (.t 60))])
    (.skip))))
    (c_impl_isOrder_1)
def c_impl_isOrder_3 : C2 :=
    .seq (.norm [1, 3, 4, 5, 6, 7, 8] [] (.seq (.reg .reg [.op (some 51) (.mov (.t 3)),
      .op (some 52) (.bin .eql (.t 51) (.c (.n .i64 3)))])
    (.cond (.t 52) (.reg .reg [.op (some 53) (.fad 6 (.t 1)),
      .op (some 54) (.load 1 false (.t 53)),
      .op (some 55) (.call (.c (.f 97 [])) [.t 54]),
      .op (some 6) (.mov (.t 55))])
    (.skip))))
    (c_impl_isOrder_2)
def c_impl_isOrder_4 : C2 :=
    .seq (.norm [1, 3, 4, 5, 6, 7, 8] [] (.seq (.reg .reg [.op (some 42) (.mov (.t 3)),
      .op (some 43) (.bin .eql (.t 42) (.c (.n .i64 1))),
      .op (some 44) (.mov (.t 43)),
      .br 44 false [.op (some 45) (.mov (.t 3)), .op (some 46) (.bin .eql (.t 45) (.c (.n .i64 3)))] [45, 46] 47 46])
    (.cond (.t 47) (.reg .reg [.op (some 48) (.fad 5 (.t 1)),
      .op (some 49) (.load 1 false (.t 48)),
      .op (some 50) (.call (.c (.f 97 [])) [.t 49]),
      .op (some 5) (.mov (.t 50))])
    (.skip))))
    (c_impl_isOrder_3)
def τ_impl_isOrder : Nat → Option GT := fun _ => none
def B_impl_isOrder : F2 := ⟨93, 1, [.t 2], τ_impl_isOrder,
    .seq (.reg .reg [.op (some 1) (.box (.t 0)),
      .op (some 2) (.mov (.c (.b false)))])
    (.seq (.reg .reg [.op (some 9) (.fad 0 (.t 1)),
      .op (some 10) (.load 1 false (.t 9)),
      .op (some 3) (.mov (.t 10))])
    (.seq (.reg (.dline 17) [.op (some 11) (.fad 3 (.t 1)),
      .op (some 12) (.load 1 false (.t 11)),
      .op (some 13) (.bin .eql (.t 12) (.c (.s ⟨#[]⟩))),
      .op (some 14) (.fad 5 (.t 1)),
      .op (some 15) (.load 1 false (.t 14)),
      .op (some 16) (.bin .eql (.t 15) (.c (.n .i64 0))),
      .op (some 17) (.fad 6 (.t 1)),
      .op (some 18) (.load 1 false (.t 17)),
      .op (some 19) (.bin .eql (.t 18) (.c (.n .i64 0))),
      .op (some 20) (.fad 7 (.t 1)),
      .op (some 21) (.load 1 false (.t 20)),
      .op (some 22) (.len false (.t 21)),
      .op (some 23) (.bin .eql (.t 22) (.c (.n .i64 0))),
      .op (some 4) (.mov (.t 13)),
      .op (some 5) (.mov (.t 16)),
      .op (some 6) (.mov (.t 19)),
      .op (some 7) (.mov (.t 23))])
    (.seq (.reg .reg [.op (some 24) (.fad 8 (.t 1)),
      .op (some 25) (.load 1 false (.t 24)),
      .op (some 26) (.bin .eql (.t 25) (.c (.s ⟨#[]⟩))),
      .op (some 8) (.mov (.t 26))])
    (.seq (.norm [1, 3, 4, 5, 6, 7, 8] [] (.seq (.reg .reg [.op (some 27) (.mov (.t 3)),
      .op (some 28) (.bin .eql (.t 27) (.c (.n .i64 4)))])
    (.cond (.t 28) (.reg .reg [.op (some 29) (.fad 8 (.t 1)),
      .op (some 30) (.load 1 false (.t 29)),
      .op (some 31) (.len true (.t 30)),
      .op (some 32) (.bin .leq (.t 31) (.c (.n .i64 200))),
      .op (some 33) (.mov (.t 32)),
      .br 33 true [.op (some 34) (.fad 8 (.t 1)), .op (some 35) (.load 1 false (.t 34)), .op (some 36) (.call (.c (.f 104 [])) [.t 35, .c (.s ⟨#[10]⟩)]), .op (some 37) (.un .not (.t 36))] [34, 35, 36, 37] 38 37,
      .op (some 8) (.mov (.t 38))])
    (.reg .reg [.op (some 39) (.fad 3 (.t 1)),
      .op (some 40) (.load 1 false (.t 39)),
      .op (some 41) (.call (.c (.f 98 [])) [.t 40]),
      .op (some 4) (.mov (.t 41))]))))
    (c_impl_isOrder_4)))))⟩
theorem B_impl_isOrder_ok : checkFn Try.prog Try.f79 B_impl_isOrder.toA = true := by kernel_rfl
theorem B_impl_isOrder_wf : B_impl_isOrder.body.wf = true := by kernel_rfl
theorem okFn_impl_isOrder : okFn Try.prog 79 = true := by kernel_rfl
def impl_isOrder_j4 (N : Nat) (jv3 : Int) (jv4 : Bool) (jv5 : Bool) (jv6 : Bool) (jv7 : Bool) (jv8 : Bool) (jb1 : Int) (jb1_2 : Int) (jb1_3 : Int) (jb1_4 : ByteArray) (jb1_5 : ByteArray) (jb1_6 : Int) (jb1_7 : Int) (jb1_8 : List Int) (jb1_9 : ByteArray) : Option Bool :=
  chk ((P_impl_isName N jb1_5) || (!(((G_impl_within jv3 (1 : Int) (6 : Int)) && (G_impl_within jb1_2 (0 : Int) (3 : Int))) && (G_impl_within jb1_3 (1 : Int) (100 : Int))))) <|
  some (((((((((G_impl_within jv3 (1 : Int) (6 : Int)) && (G_impl_within jb1_2 (0 : Int) (3 : Int))) && (G_impl_within jb1_3 (1 : Int) (100 : Int))) && (G_impl_isName N jb1_5)) && jv4) && jv5) && jv6) && jv7) && jv8)
theorem impl_isOrder_j4_run (N : Nat) (jv3 : Int) (jv4 : Bool) (jv5 : Bool) (jv6 : Bool) (jv7 : Bool) (jv8 : Bool) (jb1 : Int) (jb1_2 : Int) (jb1_3 : Int) (jb1_4 : ByteArray) (jb1_5 : ByteArray) (jb1_6 : Int) (jb1_7 : Int) (jb1_8 : List Int) (jb1_9 : ByteArray) :
    atJ ((seqK' (fun fr H K => rcode (O_impl_isOrder N) τ_impl_isOrder N fin_impl_isOrder c_impl_isOrder_1 fr H K) (finK R_impl_isOrder [.t 2])) none) [(1, .p 1 0 0), (3, .n .i64 jv3), (4, .b jv4), (5, .b jv5), (6, .b jv6), (7, .b jv7), (8, .b jv8)] ⟨2, [(1, .un 9 [[.n .i64 jb1, .n .i64 jb1_2, .n .i64 jb1_3, .s jb1_4, .s jb1_5, .n .i64 jb1_6, .n .i64 jb1_7, .q (.i .i64) jb1_8, .s jb1_9]])]⟩ = impl_isOrder_j4 N jv3 jv4 jv5 jv6 jv7 jv8 jb1 jb1_2 jb1_3 jb1_4 jb1_5 jb1_6 jb1_7 jb1_8 jb1_9 := (atJ_at _ _ _).trans (by kernel_rfl)
def impl_isOrder_j3R (N : Nat) (impl_isOrder_j4 : Int → Bool → Bool → Bool → Bool → Bool → Int → Int → Int → ByteArray → ByteArray → Int → Int → List Int → ByteArray → Option Bool) (jv3 : Int) (jv4 : Bool) (jv5 : Bool) (jv6 : Bool) (jv7 : Bool) (jv8 : Bool) (jb1 : Int) (jb1_2 : Int) (jb1_3 : Int) (jb1_4 : ByteArray) (jb1_5 : ByteArray) (jb1_6 : Int) (jb1_7 : Int) (jb1_8 : List Int) (jb1_9 : ByteArray) : Option Bool :=
  bif (ieq jv3 (5 : Int)) then
    chk (P_impl_areGiven N jb1_8) <|
    impl_isOrder_j4 jv3 jv4 jv5 jv6 (G_impl_areGiven N jb1_8) jv8 jb1 jb1_2 jb1_3 jb1_4 jb1_5 jb1_6 jb1_7 jb1_8 jb1_9
  else
    impl_isOrder_j4 jv3 jv4 jv5 jv6 jv7 jv8 jb1 jb1_2 jb1_3 jb1_4 jb1_5 jb1_6 jb1_7 jb1_8 jb1_9
def impl_isOrder_j3 (N : Nat) (jv3 : Int) (jv4 : Bool) (jv5 : Bool) (jv6 : Bool) (jv7 : Bool) (jv8 : Bool) (jb1 : Int) (jb1_2 : Int) (jb1_3 : Int) (jb1_4 : ByteArray) (jb1_5 : ByteArray) (jb1_6 : Int) (jb1_7 : Int) (jb1_8 : List Int) (jb1_9 : ByteArray) : Option Bool := impl_isOrder_j3R N (impl_isOrder_j4 N) jv3 jv4 jv5 jv6 jv7 jv8 jb1 jb1_2 jb1_3 jb1_4 jb1_5 jb1_6 jb1_7 jb1_8 jb1_9
theorem impl_isOrder_j3_raw (N : Nat) (jv3 : Int) (jv4 : Bool) (jv5 : Bool) (jv6 : Bool) (jv7 : Bool) (jv8 : Bool) (jb1 : Int) (jb1_2 : Int) (jb1_3 : Int) (jb1_4 : ByteArray) (jb1_5 : ByteArray) (jb1_6 : Int) (jb1_7 : Int) (jb1_8 : List Int) (jb1_9 : ByteArray) :
    atJ ((seqK' (fun fr H K => rcode (O_impl_isOrder N) τ_impl_isOrder N fin_impl_isOrder c_impl_isOrder_2 fr H K) (finK R_impl_isOrder [.t 2])) none) [(1, .p 1 0 0), (3, .n .i64 jv3), (4, .b jv4), (5, .b jv5), (6, .b jv6), (7, .b jv7), (8, .b jv8)] ⟨2, [(1, .un 9 [[.n .i64 jb1, .n .i64 jb1_2, .n .i64 jb1_3, .s jb1_4, .s jb1_5, .n .i64 jb1_6, .n .i64 jb1_7, .q (.i .i64) jb1_8, .s jb1_9]])]⟩ = impl_isOrder_j3R N (fun jv3 jv4 jv5 jv6 jv7 jv8 jb1 jb1_2 jb1_3 jb1_4 jb1_5 jb1_6 jb1_7 jb1_8 jb1_9 => atJ ((seqK' (fun fr H K => rcode (O_impl_isOrder N) τ_impl_isOrder N fin_impl_isOrder c_impl_isOrder_1 fr H K) (finK R_impl_isOrder [.t 2])) none) [(1, .p 1 0 0), (3, .n .i64 jv3), (4, .b jv4), (5, .b jv5), (6, .b jv6), (7, .b jv7), (8, .b jv8)] ⟨2, [(1, .un 9 [[.n .i64 jb1, .n .i64 jb1_2, .n .i64 jb1_3, .s jb1_4, .s jb1_5, .n .i64 jb1_6, .n .i64 jb1_7, .q (.i .i64) jb1_8, .s jb1_9]])]⟩) jv3 jv4 jv5 jv6 jv7 jv8 jb1 jb1_2 jb1_3 jb1_4 jb1_5 jb1_6 jb1_7 jb1_8 jb1_9 := (atJ_at _ _ _).trans (by kernel_rfl)
theorem impl_isOrder_j3_run (N : Nat) (jv3 : Int) (jv4 : Bool) (jv5 : Bool) (jv6 : Bool) (jv7 : Bool) (jv8 : Bool) (jb1 : Int) (jb1_2 : Int) (jb1_3 : Int) (jb1_4 : ByteArray) (jb1_5 : ByteArray) (jb1_6 : Int) (jb1_7 : Int) (jb1_8 : List Int) (jb1_9 : ByteArray) :
    atJ ((seqK' (fun fr H K => rcode (O_impl_isOrder N) τ_impl_isOrder N fin_impl_isOrder c_impl_isOrder_2 fr H K) (finK R_impl_isOrder [.t 2])) none) [(1, .p 1 0 0), (3, .n .i64 jv3), (4, .b jv4), (5, .b jv5), (6, .b jv6), (7, .b jv7), (8, .b jv8)] ⟨2, [(1, .un 9 [[.n .i64 jb1, .n .i64 jb1_2, .n .i64 jb1_3, .s jb1_4, .s jb1_5, .n .i64 jb1_6, .n .i64 jb1_7, .q (.i .i64) jb1_8, .s jb1_9]])]⟩ = impl_isOrder_j3 N jv3 jv4 jv5 jv6 jv7 jv8 jb1 jb1_2 jb1_3 jb1_4 jb1_5 jb1_6 jb1_7 jb1_8 jb1_9 :=
  (impl_isOrder_j3_raw N jv3 jv4 jv5 jv6 jv7 jv8 jb1 jb1_2 jb1_3 jb1_4 jb1_5 jb1_6 jb1_7 jb1_8 jb1_9).trans (congrArg (fun h => impl_isOrder_j3R N h jv3 jv4 jv5 jv6 jv7 jv8 jb1 jb1_2 jb1_3 jb1_4 jb1_5 jb1_6 jb1_7 jb1_8 jb1_9) (funext fun jv3 => funext fun jv4 => funext fun jv5 => funext fun jv6 => funext fun jv7 => funext fun jv8 => funext fun jb1 => funext fun jb1_2 => funext fun jb1_3 => funext fun jb1_4 => funext fun jb1_5 => funext fun jb1_6 => funext fun jb1_7 => funext fun jb1_8 => funext fun jb1_9 => impl_isOrder_j4_run N jv3 jv4 jv5 jv6 jv7 jv8 jb1 jb1_2 jb1_3 jb1_4 jb1_5 jb1_6 jb1_7 jb1_8 jb1_9))
def impl_isOrder_j2R (N : Nat) (impl_isOrder_j3 : Int → Bool → Bool → Bool → Bool → Bool → Int → Int → Int → ByteArray → ByteArray → Int → Int → List Int → ByteArray → Option Bool) (jv3 : Int) (jv4 : Bool) (jv5 : Bool) (jv6 : Bool) (jv7 : Bool) (jv8 : Bool) (jb1 : Int) (jb1_2 : Int) (jb1_3 : Int) (jb1_4 : ByteArray) (jb1_5 : ByteArray) (jb1_6 : Int) (jb1_7 : Int) (jb1_8 : List Int) (jb1_9 : ByteArray) : Option Bool :=
  bif (ieq jv3 (3 : Int)) then
    impl_isOrder_j3 jv3 jv4 jv5 (G_impl_isWord jb1_7) jv7 jv8 jb1 jb1_2 jb1_3 jb1_4 jb1_5 jb1_6 jb1_7 jb1_8 jb1_9
  else
    impl_isOrder_j3 jv3 jv4 jv5 jv6 jv7 jv8 jb1 jb1_2 jb1_3 jb1_4 jb1_5 jb1_6 jb1_7 jb1_8 jb1_9
def impl_isOrder_j2 (N : Nat) (jv3 : Int) (jv4 : Bool) (jv5 : Bool) (jv6 : Bool) (jv7 : Bool) (jv8 : Bool) (jb1 : Int) (jb1_2 : Int) (jb1_3 : Int) (jb1_4 : ByteArray) (jb1_5 : ByteArray) (jb1_6 : Int) (jb1_7 : Int) (jb1_8 : List Int) (jb1_9 : ByteArray) : Option Bool := impl_isOrder_j2R N (impl_isOrder_j3 N) jv3 jv4 jv5 jv6 jv7 jv8 jb1 jb1_2 jb1_3 jb1_4 jb1_5 jb1_6 jb1_7 jb1_8 jb1_9
theorem impl_isOrder_j2_raw (N : Nat) (jv3 : Int) (jv4 : Bool) (jv5 : Bool) (jv6 : Bool) (jv7 : Bool) (jv8 : Bool) (jb1 : Int) (jb1_2 : Int) (jb1_3 : Int) (jb1_4 : ByteArray) (jb1_5 : ByteArray) (jb1_6 : Int) (jb1_7 : Int) (jb1_8 : List Int) (jb1_9 : ByteArray) :
    atJ ((seqK' (fun fr H K => rcode (O_impl_isOrder N) τ_impl_isOrder N fin_impl_isOrder c_impl_isOrder_3 fr H K) (finK R_impl_isOrder [.t 2])) none) [(1, .p 1 0 0), (3, .n .i64 jv3), (4, .b jv4), (5, .b jv5), (6, .b jv6), (7, .b jv7), (8, .b jv8)] ⟨2, [(1, .un 9 [[.n .i64 jb1, .n .i64 jb1_2, .n .i64 jb1_3, .s jb1_4, .s jb1_5, .n .i64 jb1_6, .n .i64 jb1_7, .q (.i .i64) jb1_8, .s jb1_9]])]⟩ = impl_isOrder_j2R N (fun jv3 jv4 jv5 jv6 jv7 jv8 jb1 jb1_2 jb1_3 jb1_4 jb1_5 jb1_6 jb1_7 jb1_8 jb1_9 => atJ ((seqK' (fun fr H K => rcode (O_impl_isOrder N) τ_impl_isOrder N fin_impl_isOrder c_impl_isOrder_2 fr H K) (finK R_impl_isOrder [.t 2])) none) [(1, .p 1 0 0), (3, .n .i64 jv3), (4, .b jv4), (5, .b jv5), (6, .b jv6), (7, .b jv7), (8, .b jv8)] ⟨2, [(1, .un 9 [[.n .i64 jb1, .n .i64 jb1_2, .n .i64 jb1_3, .s jb1_4, .s jb1_5, .n .i64 jb1_6, .n .i64 jb1_7, .q (.i .i64) jb1_8, .s jb1_9]])]⟩) jv3 jv4 jv5 jv6 jv7 jv8 jb1 jb1_2 jb1_3 jb1_4 jb1_5 jb1_6 jb1_7 jb1_8 jb1_9 := (atJ_at _ _ _).trans (by kernel_rfl)
theorem impl_isOrder_j2_run (N : Nat) (jv3 : Int) (jv4 : Bool) (jv5 : Bool) (jv6 : Bool) (jv7 : Bool) (jv8 : Bool) (jb1 : Int) (jb1_2 : Int) (jb1_3 : Int) (jb1_4 : ByteArray) (jb1_5 : ByteArray) (jb1_6 : Int) (jb1_7 : Int) (jb1_8 : List Int) (jb1_9 : ByteArray) :
    atJ ((seqK' (fun fr H K => rcode (O_impl_isOrder N) τ_impl_isOrder N fin_impl_isOrder c_impl_isOrder_3 fr H K) (finK R_impl_isOrder [.t 2])) none) [(1, .p 1 0 0), (3, .n .i64 jv3), (4, .b jv4), (5, .b jv5), (6, .b jv6), (7, .b jv7), (8, .b jv8)] ⟨2, [(1, .un 9 [[.n .i64 jb1, .n .i64 jb1_2, .n .i64 jb1_3, .s jb1_4, .s jb1_5, .n .i64 jb1_6, .n .i64 jb1_7, .q (.i .i64) jb1_8, .s jb1_9]])]⟩ = impl_isOrder_j2 N jv3 jv4 jv5 jv6 jv7 jv8 jb1 jb1_2 jb1_3 jb1_4 jb1_5 jb1_6 jb1_7 jb1_8 jb1_9 :=
  (impl_isOrder_j2_raw N jv3 jv4 jv5 jv6 jv7 jv8 jb1 jb1_2 jb1_3 jb1_4 jb1_5 jb1_6 jb1_7 jb1_8 jb1_9).trans (congrArg (fun h => impl_isOrder_j2R N h jv3 jv4 jv5 jv6 jv7 jv8 jb1 jb1_2 jb1_3 jb1_4 jb1_5 jb1_6 jb1_7 jb1_8 jb1_9) (funext fun jv3 => funext fun jv4 => funext fun jv5 => funext fun jv6 => funext fun jv7 => funext fun jv8 => funext fun jb1 => funext fun jb1_2 => funext fun jb1_3 => funext fun jb1_4 => funext fun jb1_5 => funext fun jb1_6 => funext fun jb1_7 => funext fun jb1_8 => funext fun jb1_9 => impl_isOrder_j3_run N jv3 jv4 jv5 jv6 jv7 jv8 jb1 jb1_2 jb1_3 jb1_4 jb1_5 jb1_6 jb1_7 jb1_8 jb1_9))
def impl_isOrder_j1R (N : Nat) (impl_isOrder_j2 : Int → Bool → Bool → Bool → Bool → Bool → Int → Int → Int → ByteArray → ByteArray → Int → Int → List Int → ByteArray → Option Bool) (jv3 : Int) (jv4 : Bool) (jv5 : Bool) (jv6 : Bool) (jv7 : Bool) (jv8 : Bool) (jb1 : Int) (jb1_2 : Int) (jb1_3 : Int) (jb1_4 : ByteArray) (jb1_5 : ByteArray) (jb1_6 : Int) (jb1_7 : Int) (jb1_8 : List Int) (jb1_9 : ByteArray) : Option Bool :=
  bif ((ieq jv3 (1 : Int)) || (ieq jv3 (3 : Int))) then
    impl_isOrder_j2 jv3 jv4 (G_impl_isWord jb1_6) jv6 jv7 jv8 jb1 jb1_2 jb1_3 jb1_4 jb1_5 jb1_6 jb1_7 jb1_8 jb1_9
  else
    impl_isOrder_j2 jv3 jv4 jv5 jv6 jv7 jv8 jb1 jb1_2 jb1_3 jb1_4 jb1_5 jb1_6 jb1_7 jb1_8 jb1_9
def impl_isOrder_j1 (N : Nat) (jv3 : Int) (jv4 : Bool) (jv5 : Bool) (jv6 : Bool) (jv7 : Bool) (jv8 : Bool) (jb1 : Int) (jb1_2 : Int) (jb1_3 : Int) (jb1_4 : ByteArray) (jb1_5 : ByteArray) (jb1_6 : Int) (jb1_7 : Int) (jb1_8 : List Int) (jb1_9 : ByteArray) : Option Bool := impl_isOrder_j1R N (impl_isOrder_j2 N) jv3 jv4 jv5 jv6 jv7 jv8 jb1 jb1_2 jb1_3 jb1_4 jb1_5 jb1_6 jb1_7 jb1_8 jb1_9
theorem impl_isOrder_j1_raw (N : Nat) (jv3 : Int) (jv4 : Bool) (jv5 : Bool) (jv6 : Bool) (jv7 : Bool) (jv8 : Bool) (jb1 : Int) (jb1_2 : Int) (jb1_3 : Int) (jb1_4 : ByteArray) (jb1_5 : ByteArray) (jb1_6 : Int) (jb1_7 : Int) (jb1_8 : List Int) (jb1_9 : ByteArray) :
    atJ ((seqK' (fun fr H K => rcode (O_impl_isOrder N) τ_impl_isOrder N fin_impl_isOrder c_impl_isOrder_4 fr H K) (finK R_impl_isOrder [.t 2])) none) [(1, .p 1 0 0), (3, .n .i64 jv3), (4, .b jv4), (5, .b jv5), (6, .b jv6), (7, .b jv7), (8, .b jv8)] ⟨2, [(1, .un 9 [[.n .i64 jb1, .n .i64 jb1_2, .n .i64 jb1_3, .s jb1_4, .s jb1_5, .n .i64 jb1_6, .n .i64 jb1_7, .q (.i .i64) jb1_8, .s jb1_9]])]⟩ = impl_isOrder_j1R N (fun jv3 jv4 jv5 jv6 jv7 jv8 jb1 jb1_2 jb1_3 jb1_4 jb1_5 jb1_6 jb1_7 jb1_8 jb1_9 => atJ ((seqK' (fun fr H K => rcode (O_impl_isOrder N) τ_impl_isOrder N fin_impl_isOrder c_impl_isOrder_3 fr H K) (finK R_impl_isOrder [.t 2])) none) [(1, .p 1 0 0), (3, .n .i64 jv3), (4, .b jv4), (5, .b jv5), (6, .b jv6), (7, .b jv7), (8, .b jv8)] ⟨2, [(1, .un 9 [[.n .i64 jb1, .n .i64 jb1_2, .n .i64 jb1_3, .s jb1_4, .s jb1_5, .n .i64 jb1_6, .n .i64 jb1_7, .q (.i .i64) jb1_8, .s jb1_9]])]⟩) jv3 jv4 jv5 jv6 jv7 jv8 jb1 jb1_2 jb1_3 jb1_4 jb1_5 jb1_6 jb1_7 jb1_8 jb1_9 := (atJ_at _ _ _).trans (by kernel_rfl)
theorem impl_isOrder_j1_run (N : Nat) (jv3 : Int) (jv4 : Bool) (jv5 : Bool) (jv6 : Bool) (jv7 : Bool) (jv8 : Bool) (jb1 : Int) (jb1_2 : Int) (jb1_3 : Int) (jb1_4 : ByteArray) (jb1_5 : ByteArray) (jb1_6 : Int) (jb1_7 : Int) (jb1_8 : List Int) (jb1_9 : ByteArray) :
    atJ ((seqK' (fun fr H K => rcode (O_impl_isOrder N) τ_impl_isOrder N fin_impl_isOrder c_impl_isOrder_4 fr H K) (finK R_impl_isOrder [.t 2])) none) [(1, .p 1 0 0), (3, .n .i64 jv3), (4, .b jv4), (5, .b jv5), (6, .b jv6), (7, .b jv7), (8, .b jv8)] ⟨2, [(1, .un 9 [[.n .i64 jb1, .n .i64 jb1_2, .n .i64 jb1_3, .s jb1_4, .s jb1_5, .n .i64 jb1_6, .n .i64 jb1_7, .q (.i .i64) jb1_8, .s jb1_9]])]⟩ = impl_isOrder_j1 N jv3 jv4 jv5 jv6 jv7 jv8 jb1 jb1_2 jb1_3 jb1_4 jb1_5 jb1_6 jb1_7 jb1_8 jb1_9 :=
  (impl_isOrder_j1_raw N jv3 jv4 jv5 jv6 jv7 jv8 jb1 jb1_2 jb1_3 jb1_4 jb1_5 jb1_6 jb1_7 jb1_8 jb1_9).trans (congrArg (fun h => impl_isOrder_j1R N h jv3 jv4 jv5 jv6 jv7 jv8 jb1 jb1_2 jb1_3 jb1_4 jb1_5 jb1_6 jb1_7 jb1_8 jb1_9) (funext fun jv3 => funext fun jv4 => funext fun jv5 => funext fun jv6 => funext fun jv7 => funext fun jv8 => funext fun jb1 => funext fun jb1_2 => funext fun jb1_3 => funext fun jb1_4 => funext fun jb1_5 => funext fun jb1_6 => funext fun jb1_7 => funext fun jb1_8 => funext fun jb1_9 => impl_isOrder_j2_run N jv3 jv4 jv5 jv6 jv7 jv8 jb1 jb1_2 jb1_3 jb1_4 jb1_5 jb1_6 jb1_7 jb1_8 jb1_9))
def F_impl_isOrderR (N : Nat) (impl_isOrder_j1 : Int → Bool → Bool → Bool → Bool → Bool → Int → Int → Int → ByteArray → ByteArray → Int → Int → List Int → ByteArray → Option Bool) (a0 : DOrder) : Option Bool :=
  bif (ieq a0.1 (4 : Int)) then
    chk ((P_strings_Contains a0.2.2.2.2.2.2.2.2 (⟨#[10]⟩ : ByteArray)) || (!(ile (a0.2.2.2.2.2.2.2.2.size : Int) (200 : Int)))) <|
    impl_isOrder_j1 a0.1 (decide (a0.2.2.2.1 = (⟨#[]⟩ : ByteArray))) (ieq a0.2.2.2.2.2.1 (0 : Int)) (ieq a0.2.2.2.2.2.2.1 (0 : Int)) (ieq ((a0.2.2.2.2.2.2.2.1.length) : Int) (0 : Int)) ((ile (a0.2.2.2.2.2.2.2.2.size : Int) (200 : Int)) && (!(G_strings_Contains a0.2.2.2.2.2.2.2.2 (⟨#[10]⟩ : ByteArray)))) a0.1 a0.2.1 a0.2.2.1 a0.2.2.2.1 a0.2.2.2.2.1 a0.2.2.2.2.2.1 a0.2.2.2.2.2.2.1 a0.2.2.2.2.2.2.2.1 a0.2.2.2.2.2.2.2.2
  else
    chk (P_impl_isName N a0.2.2.2.1) <|
    impl_isOrder_j1 a0.1 (G_impl_isName N a0.2.2.2.1) (ieq a0.2.2.2.2.2.1 (0 : Int)) (ieq a0.2.2.2.2.2.2.1 (0 : Int)) (ieq ((a0.2.2.2.2.2.2.2.1.length) : Int) (0 : Int)) (decide (a0.2.2.2.2.2.2.2.2 = (⟨#[]⟩ : ByteArray))) a0.1 a0.2.1 a0.2.2.1 a0.2.2.2.1 a0.2.2.2.2.1 a0.2.2.2.2.2.1 a0.2.2.2.2.2.2.1 a0.2.2.2.2.2.2.2.1 a0.2.2.2.2.2.2.2.2
def F_impl_isOrder (N : Nat) (a0 : DOrder) : Option Bool := F_impl_isOrderR N (impl_isOrder_j1 N) a0
theorem F_impl_isOrder_raw (N : Nat) (a0 : DOrder) :
    runF (O_impl_isOrder N) N B_impl_isOrder R_impl_isOrder (vals T_impl_isOrder a0) = F_impl_isOrderR N (fun jv3 jv4 jv5 jv6 jv7 jv8 jb1 jb1_2 jb1_3 jb1_4 jb1_5 jb1_6 jb1_7 jb1_8 jb1_9 => atJ ((seqK' (fun fr H K => rcode (O_impl_isOrder N) τ_impl_isOrder N fin_impl_isOrder c_impl_isOrder_4 fr H K) (finK R_impl_isOrder [.t 2])) none) [(1, .p 1 0 0), (3, .n .i64 jv3), (4, .b jv4), (5, .b jv5), (6, .b jv6), (7, .b jv7), (8, .b jv8)] ⟨2, [(1, .un 9 [[.n .i64 jb1, .n .i64 jb1_2, .n .i64 jb1_3, .s jb1_4, .s jb1_5, .n .i64 jb1_6, .n .i64 jb1_7, .q (.i .i64) jb1_8, .s jb1_9]])]⟩) a0 := by kernel_rfl
theorem F_impl_isOrder_run (N : Nat) (a0 : DOrder) :
    runF (O_impl_isOrder N) N B_impl_isOrder R_impl_isOrder (vals T_impl_isOrder a0) = F_impl_isOrder N a0 :=
  (F_impl_isOrder_raw N a0).trans (congrArg (fun h => F_impl_isOrderR N h a0) (funext fun jv3 => funext fun jv4 => funext fun jv5 => funext fun jv6 => funext fun jv7 => funext fun jv8 => funext fun jb1 => funext fun jb1_2 => funext fun jb1_3 => funext fun jb1_4 => funext fun jb1_5 => funext fun jb1_6 => funext fun jb1_7 => funext fun jb1_8 => funext fun jb1_9 => impl_isOrder_j1_run N jv3 jv4 jv5 jv6 jv7 jv8 jb1 jb1_2 jb1_3 jb1_4 jb1_5 jb1_6 jb1_7 jb1_8 jb1_9))
def P_impl_isOrder (N : Nat) (a0 : DOrder) : Bool := lock (F_impl_isOrder N a0).isSome
def G_impl_isOrder (N : Nat) (a0 : DOrder) : Bool := lock ((F_impl_isOrder N a0).getD false)
theorem FG_impl_isOrder {N : Nat} (a0 : DOrder) (h : P_impl_isOrder N a0 = true) : F_impl_isOrder N a0 = some (G_impl_isOrder N a0) := by unfold P_impl_isOrder at h; unfold G_impl_isOrder; rw [lock_eq] at h ⊢; exact some_of_isSome h
theorem PG_impl_isOrder {N : Nat} {a0 : DOrder} {v : Bool} (h : F_impl_isOrder N a0 = some v) : P_impl_isOrder N a0 = true ∧ G_impl_isOrder N a0 = v := by unfold P_impl_isOrder G_impl_isOrder; rw [h, lock_eq, lock_eq]; exact ⟨rfl, rfl⟩
def o_impl_isOrder (N : Nat) : List V → Bool × V := mkO T_impl_isOrder R_impl_isOrder (fun (x : DOrder) => P_impl_isOrder N x) (fun (x : DOrder) => G_impl_isOrder N x)
theorem impl_isOrder_entry (N : Nat) : Entry Try.prog 79 (o_impl_isOrder N) := Entry.of fun (x : DOrder) h =>
  Pf.of_run hm Try.func79 okFn_impl_isOrder B_impl_isOrder_ok B_impl_isOrder_wf (O_impl_isOrder_ok N) rfl ((F_impl_isOrder_run N x).trans (FG_impl_isOrder x h))
/-! loop.example/g00526/impl.OrderOk -/
abbrev T_impl_OrderOk : List GT := [tOrder]
abbrev R_impl_OrderOk : List GT := [.b]
def fin_impl_OrderOk : Fr2 → Hp → Option Bool := finF R_impl_OrderOk [.t 2]
def O_impl_OrderOk (N : Nat) : Orac := orc [(79, o_impl_isOrder N)] []
theorem O_impl_OrderOk_ok (N : Nat) : OrcOk Try.prog (O_impl_OrderOk N) := OrcOk.of ⟨impl_isOrder_entry N, trivial⟩ trivial
def τ_impl_OrderOk : Nat → Option GT := fun _ => none
def B_impl_OrderOk : F2 := ⟨5, 1, [.t 2], τ_impl_OrderOk,
    .seq (.reg .reg [.op (some 1) (.box (.t 0)),
      .op (some 2) (.mov (.c (.b false)))])
    (.seq (.reg .reg [.op (some 3) (.load 9 true (.t 1)),
      .op (some 4) (.call (.c (.f 79 [])) [.t 3]),
      .op (some 2) (.mov (.t 4))])
    (.ret))⟩
theorem B_impl_OrderOk_ok : checkFn Try.prog Try.f36 B_impl_OrderOk.toA = true := by kernel_rfl
theorem B_impl_OrderOk_wf : B_impl_OrderOk.body.wf = true := by kernel_rfl
theorem okFn_impl_OrderOk : okFn Try.prog 36 = true := by kernel_rfl
def F_impl_OrderOk (N : Nat) (a0 : DOrder) : Option Bool :=
  chk (P_impl_isOrder N a0) <|
  some (G_impl_isOrder N a0)
theorem F_impl_OrderOk_run (N : Nat) (a0 : DOrder) :
    runF (O_impl_OrderOk N) N B_impl_OrderOk R_impl_OrderOk (vals T_impl_OrderOk a0) = F_impl_OrderOk N a0 := by kernel_rfl
def P_impl_OrderOk (N : Nat) (a0 : DOrder) : Bool := lock (F_impl_OrderOk N a0).isSome
def G_impl_OrderOk (N : Nat) (a0 : DOrder) : Bool := lock ((F_impl_OrderOk N a0).getD false)
theorem FG_impl_OrderOk {N : Nat} (a0 : DOrder) (h : P_impl_OrderOk N a0 = true) : F_impl_OrderOk N a0 = some (G_impl_OrderOk N a0) := by unfold P_impl_OrderOk at h; unfold G_impl_OrderOk; rw [lock_eq] at h ⊢; exact some_of_isSome h
theorem PG_impl_OrderOk {N : Nat} {a0 : DOrder} {v : Bool} (h : F_impl_OrderOk N a0 = some v) : P_impl_OrderOk N a0 = true ∧ G_impl_OrderOk N a0 = v := by unfold P_impl_OrderOk G_impl_OrderOk; rw [h, lock_eq, lock_eq]; exact ⟨rfl, rfl⟩
def o_impl_OrderOk (N : Nat) : List V → Bool × V := mkO T_impl_OrderOk R_impl_OrderOk (fun (x : DOrder) => P_impl_OrderOk N x) (fun (x : DOrder) => G_impl_OrderOk N x)
theorem impl_OrderOk_entry (N : Nat) : Entry Try.prog 36 (o_impl_OrderOk N) := Entry.of fun (x : DOrder) h =>
  Pf.of_run hm Try.func36 okFn_impl_OrderOk B_impl_OrderOk_ok B_impl_OrderOk_wf (O_impl_OrderOk_ok N) rfl ((F_impl_OrderOk_run N x).trans (FG_impl_OrderOk x h))
/-! loop.example/g00526/laws.eqInt64S -/
abbrev T_laws_eqInt64S : List GT := [(.sl (.i .i64)), (.sl (.i .i64))]
abbrev R_laws_eqInt64S : List GT := [.b]
def fin_laws_eqInt64S : Fr2 → Hp → Option Bool := finF R_laws_eqInt64S [.t 4]
def O_laws_eqInt64S (N : Nat) : Orac := orc [] []
theorem O_laws_eqInt64S_ok (N : Nat) : OrcOk Try.prog (O_laws_eqInt64S N) := OrcOk.of trivial trivial
def c_laws_eqInt64S_1 : C2 :=
    .seq (.seq (.reg .reg [.op (some 11) (.mov (.t 5)),
      .op (some 12) (.mov (.t 0)),
      .op (some 13) (.len false (.t 12)),
      .op (some 14) (.bin .lss (.t 11) (.t 13))])
    (.cond (.t 14) (.skip)
    (.exit 0)))
    (.seq (.block 1 (.seq (.reg (.dline 9) [.op (some 17) (.mov (.t 0)),
      .op (some 18) (.mov (.t 5)),
      .op (some 19) (.iad 1 (.t 17) (.t 18)),
      .op (some 20) (.load 1 false (.t 19)),
      .op (some 21) (.mov (.t 1)),
      .op (some 22) (.mov (.t 5)),
      .op (some 23) (.iad 1 (.t 21) (.t 22)),
      .op (some 24) (.load 1 false (.t 23)),
      .op (some 25) (.bin .neq (.t 20) (.t 24))])
    (.cond (.t 25) (.seq (.reg .reg [.op (some 4) (.mov (.c (.b false)))])
    (.ret))
    (.skip))))
    (.reg .reg [.op (some 15) (.mov (.t 5)),
      .op (some 16) (.bin .add (.t 15) (.c (.n .i64 1))),
      .op (some 5) (.mov (.t 16))]))
def c_laws_eqInt64S_2 : C2 :=
    .seq (.reg .reg [.op (some 4) (.mov (.c (.b true)))])
    (.ret)
def τ_laws_eqInt64S : Nat → Option GT := fun _ => none
def B_laws_eqInt64S : F2 := ⟨26, 2, [.t 4], τ_laws_eqInt64S,
    .seq (.reg .reg [.op (some 4) (.mov (.c (.b false)))])
    (.seq (.seq (.reg .reg [.op (some 6) (.mov (.t 0)),
      .op (some 7) (.len false (.t 6)),
      .op (some 8) (.mov (.t 1)),
      .op (some 9) (.len false (.t 8)),
      .op (some 10) (.bin .neq (.t 7) (.t 9))])
    (.cond (.t 10) (.seq (.reg .reg [.op (some 4) (.mov (.c (.b false)))])
    (.ret))
    (.skip)))
    (.seq (.seq (.reg .reg [.op (some 5) (.mov (.c (.n .i64 0)))])
    (.block 0 (.loop [0, 1, 5] [] [] c_laws_eqInt64S_1)))
    (c_laws_eqInt64S_2)))⟩
theorem B_laws_eqInt64S_ok : checkFn Try.prog Try.f51 B_laws_eqInt64S.toA = true := by kernel_rfl
theorem B_laws_eqInt64S_wf : B_laws_eqInt64S.body.wf = true := by kernel_rfl
theorem okFn_laws_eqInt64S : okFn Try.prog 51 = true := by kernel_rfl
def laws_eqInt64S_l1s (r0 : Int → Option Bool) (k0_0 : Option Bool) (N : Nat) (a0 : List Int) (a1 : List Int) (v5_1 : Int) : Option Bool :=
  bif (ilt v5_1 ((a0.length) : Int)) then
    let x1 : Int := (a0.getD (v5_1.toNat) (0 : Int))
    let x2 : Int := (a1.getD (v5_1.toNat) (0 : Int))
    chk (inb v5_1 (a0.length)) <|
    chk (inb v5_1 (a1.length)) <|
    bif (!ieq x1 x2) then
      some false
    else
      r0 (w64 (v5_1 + (1 : Int)))
  else
    k0_0
theorem laws_eqInt64S_l1s_run (N : Nat) (C0 : Fr2 → Hp → Option Bool) (K0 : Option Nat → Fr2 → Hp → Option Bool) (a0 : List Int) (a1 : List Int) (v5_1 : Int) :
    rcode (O_laws_eqInt64S N) τ_laws_eqInt64S N fin_laws_eqInt64S c_laws_eqInt64S_1 [(0, .q (.i .i64) a0), (1, .q (.i .i64) a1), (5, .n .i64 v5_1)] ⟨1, []⟩ (roundK [0, 1, 5] [] [] C0 K0) = laws_eqInt64S_l1s (fun v5_1 => C0 [(0, .q (.i .i64) a0), (1, .q (.i .i64) a1), (5, .n .i64 v5_1)] ⟨1, []⟩) (K0 (some 0) [] ⟨1, []⟩) N a0 a1 v5_1 := by kernel_rfl
def laws_eqInt64S_x1_0 (N : Nat) : Option Bool :=
  some true
theorem laws_eqInt64S_x1_0_run (N : Nat)  :
    (blockK 0 (seqK' (fun fr H K => rcode (O_laws_eqInt64S N) τ_laws_eqInt64S N fin_laws_eqInt64S c_laws_eqInt64S_2 fr H K) (finK R_laws_eqInt64S [.t 4]))) (some 0) [] ⟨1, []⟩ = laws_eqInt64S_x1_0 N := by kernel_rfl
def laws_eqInt64S_l1 (k0_0 : Option Bool) (N : Nat) (a0 : List Int) (a1 : List Int) : Nat → Int → Option Bool
  | 0, _ => none
  | n + 1, v5_1 => laws_eqInt64S_l1s (laws_eqInt64S_l1 k0_0 N a0 a1 n) k0_0 N a0 a1 v5_1
def laws_eqInt64S_h1 (N : Nat) (a0 : List Int) (a1 : List Int) (v5_1 : Int) : Option Bool :=
  laws_eqInt64S_l1 (laws_eqInt64S_x1_0 N) N a0 a1 N v5_1
theorem laws_eqInt64S_l1_run (N : Nat)  (K : Option Nat → Fr2 → Hp → Option Bool) (a0 : List Int) (a1 : List Int) : ∀ (n : Nat) (v5_1 : Int),
    rloop (fun fr H K => rcode (O_laws_eqInt64S N) τ_laws_eqInt64S N fin_laws_eqInt64S c_laws_eqInt64S_1 fr H K) [0, 1, 5] [] [] K n [(0, .q (.i .i64) a0), (1, .q (.i .i64) a1), (5, .n .i64 v5_1)] ⟨1, []⟩ = laws_eqInt64S_l1 (K (some 0) [] ⟨1, []⟩) N a0 a1 n v5_1 := by
  intro n
  induction n with
  | zero => intro v5_1; kernel_rfl
  | succ n ih => intro v5_1; exact (laws_eqInt64S_l1s_run N (rloop (fun fr H K => rcode (O_laws_eqInt64S N) τ_laws_eqInt64S N fin_laws_eqInt64S c_laws_eqInt64S_1 fr H K) [0, 1, 5] [] [] K n) K a0 a1 v5_1).trans (congrArg (fun r => laws_eqInt64S_l1s r (K (some 0) [] ⟨1, []⟩) N a0 a1 v5_1) (funext fun v5_1 => ih v5_1))
theorem laws_eqInt64S_h1_run (N : Nat) (a0 : List Int) (a1 : List Int) (v5_1 : Int) : rloop (fun fr H K => rcode (O_laws_eqInt64S N) τ_laws_eqInt64S N fin_laws_eqInt64S c_laws_eqInt64S_1 fr H K) [0, 1, 5] [] [] (blockK 0 (seqK' (fun fr H K => rcode (O_laws_eqInt64S N) τ_laws_eqInt64S N fin_laws_eqInt64S c_laws_eqInt64S_2 fr H K) (finK R_laws_eqInt64S [.t 4]))) N [(0, .q (.i .i64) a0), (1, .q (.i .i64) a1), (5, .n .i64 v5_1)] ⟨1, []⟩ = laws_eqInt64S_h1 N a0 a1 v5_1 :=
  ((laws_eqInt64S_l1_run N (blockK 0 (seqK' (fun fr H K => rcode (O_laws_eqInt64S N) τ_laws_eqInt64S N fin_laws_eqInt64S c_laws_eqInt64S_2 fr H K) (finK R_laws_eqInt64S [.t 4]))) a0 a1 N v5_1)).trans (congrArg (fun h => laws_eqInt64S_l1 h N a0 a1 N v5_1) (laws_eqInt64S_x1_0_run N ))
def F_laws_eqInt64SR (N : Nat) (laws_eqInt64S_h1 : List Int → List Int → Int → Option Bool) (a0 : List Int) (a1 : List Int) : Option Bool :=
  bif (!ieq ((a0.length) : Int) ((a1.length) : Int)) then
    some false
  else
    laws_eqInt64S_h1 a0 a1 (0 : Int)
def F_laws_eqInt64S (N : Nat) (a0 : List Int) (a1 : List Int) : Option Bool := F_laws_eqInt64SR N (laws_eqInt64S_h1 N) a0 a1
theorem F_laws_eqInt64S_raw (N : Nat) (a0 : List Int) (a1 : List Int) :
    runF (O_laws_eqInt64S N) N B_laws_eqInt64S R_laws_eqInt64S (vals T_laws_eqInt64S (a0, a1)) = F_laws_eqInt64SR N (fun a0 a1 v5_1 => rloop (fun fr H K => rcode (O_laws_eqInt64S N) τ_laws_eqInt64S N fin_laws_eqInt64S c_laws_eqInt64S_1 fr H K) [0, 1, 5] [] [] (blockK 0 (seqK' (fun fr H K => rcode (O_laws_eqInt64S N) τ_laws_eqInt64S N fin_laws_eqInt64S c_laws_eqInt64S_2 fr H K) (finK R_laws_eqInt64S [.t 4]))) N [(0, .q (.i .i64) a0), (1, .q (.i .i64) a1), (5, .n .i64 v5_1)] ⟨1, []⟩) a0 a1 := by kernel_rfl
theorem F_laws_eqInt64S_run (N : Nat) (a0 : List Int) (a1 : List Int) :
    runF (O_laws_eqInt64S N) N B_laws_eqInt64S R_laws_eqInt64S (vals T_laws_eqInt64S (a0, a1)) = F_laws_eqInt64S N a0 a1 :=
  (F_laws_eqInt64S_raw N a0 a1).trans (congrArg (fun h => F_laws_eqInt64SR N h a0 a1) (funext fun a0 => funext fun a1 => funext fun v5_1 => laws_eqInt64S_h1_run N a0 a1 v5_1))
def P_laws_eqInt64S (N : Nat) (a0 : List Int) (a1 : List Int) : Bool := lock (F_laws_eqInt64S N a0 a1).isSome
def G_laws_eqInt64S (N : Nat) (a0 : List Int) (a1 : List Int) : Bool := lock ((F_laws_eqInt64S N a0 a1).getD false)
theorem FG_laws_eqInt64S {N : Nat} (a0 : List Int) (a1 : List Int) (h : P_laws_eqInt64S N a0 a1 = true) : F_laws_eqInt64S N a0 a1 = some (G_laws_eqInt64S N a0 a1) := by unfold P_laws_eqInt64S at h; unfold G_laws_eqInt64S; rw [lock_eq] at h ⊢; exact some_of_isSome h
theorem PG_laws_eqInt64S {N : Nat} {a0 : List Int} {a1 : List Int} {v : Bool} (h : F_laws_eqInt64S N a0 a1 = some v) : P_laws_eqInt64S N a0 a1 = true ∧ G_laws_eqInt64S N a0 a1 = v := by unfold P_laws_eqInt64S G_laws_eqInt64S; rw [h, lock_eq, lock_eq]; exact ⟨rfl, rfl⟩
def o_laws_eqInt64S (N : Nat) : List V → Bool × V := mkO T_laws_eqInt64S R_laws_eqInt64S (fun (x : (List Int × List Int)) => P_laws_eqInt64S N x.1 x.2) (fun (x : (List Int × List Int)) => G_laws_eqInt64S N x.1 x.2)
theorem laws_eqInt64S_entry (N : Nat) : Entry Try.prog 51 (o_laws_eqInt64S N) := Entry.of fun (x : (List Int × List Int)) h =>
  Pf.of_run hm Try.func51 okFn_laws_eqInt64S B_laws_eqInt64S_ok B_laws_eqInt64S_wf (O_laws_eqInt64S_ok N) rfl ((F_laws_eqInt64S_run N x.1 x.2).trans (FG_laws_eqInt64S x.1 x.2 h))
/-! loop.example/g00526/laws.eqOrder -/
abbrev T_laws_eqOrder : List GT := [tOrder, tOrder]
abbrev R_laws_eqOrder : List GT := [.b]
def fin_laws_eqOrder : Fr2 → Hp → Option Bool := finF R_laws_eqOrder [.t 4]
def O_laws_eqOrder (N : Nat) : Orac := orc [(51, o_laws_eqInt64S N)] []
theorem O_laws_eqOrder_ok (N : Nat) : OrcOk Try.prog (O_laws_eqOrder N) := OrcOk.of ⟨laws_eqInt64S_entry N, trivial⟩ trivial
def τ_laws_eqOrder : Nat → Option GT := fun _ => none
def B_laws_eqOrder : F2 := ⟨51, 2, [.t 4], τ_laws_eqOrder,
    .seq (.reg .reg [.op (some 2) (.box (.t 0)),
      .op (some 3) (.box (.t 1)),
      .op (some 4) (.mov (.c (.b false)))])
    (.seq (.seq (.reg .reg [.op (some 5) (.fad 0 (.t 2)),
      .op (some 6) (.load 1 false (.t 5)),
      .op (some 7) (.fad 0 (.t 3)),
      .op (some 8) (.load 1 false (.t 7)),
      .op (some 9) (.bin .neq (.t 6) (.t 8))])
    (.cond (.t 9) (.seq (.reg .reg [.op (some 4) (.mov (.c (.b false)))])
    (.ret))
    (.skip)))
    (.seq (.seq (.reg .reg [.op (some 10) (.fad 1 (.t 2)),
      .op (some 11) (.load 1 false (.t 10)),
      .op (some 12) (.fad 1 (.t 3)),
      .op (some 13) (.load 1 false (.t 12)),
      .op (some 14) (.bin .neq (.t 11) (.t 13))])
    (.cond (.t 14) (.seq (.reg .reg [.op (some 4) (.mov (.c (.b false)))])
    (.ret))
    (.skip)))
    (.seq (.seq (.reg .reg [.op (some 15) (.fad 2 (.t 2)),
      .op (some 16) (.load 1 false (.t 15)),
      .op (some 17) (.fad 2 (.t 3)),
      .op (some 18) (.load 1 false (.t 17)),
      .op (some 19) (.bin .neq (.t 16) (.t 18))])
    (.cond (.t 19) (.seq (.reg .reg [.op (some 4) (.mov (.c (.b false)))])
    (.ret))
    (.skip)))
    (.seq (.seq (.reg .reg [.op (some 20) (.fad 3 (.t 2)),
      .op (some 21) (.load 1 false (.t 20)),
      .op (some 22) (.fad 3 (.t 3)),
      .op (some 23) (.load 1 false (.t 22)),
      .op (some 24) (.bin .neq (.t 21) (.t 23))])
    (.cond (.t 24) (.seq (.reg .reg [.op (some 4) (.mov (.c (.b false)))])
    (.ret))
    (.skip)))
    (.seq (.seq (.reg .reg [.op (some 25) (.fad 4 (.t 2)),
      .op (some 26) (.load 1 false (.t 25)),
      .op (some 27) (.fad 4 (.t 3)),
      .op (some 28) (.load 1 false (.t 27)),
      .op (some 29) (.bin .neq (.t 26) (.t 28))])
    (.cond (.t 29) (.seq (.reg .reg [.op (some 4) (.mov (.c (.b false)))])
    (.ret))
    (.skip)))
    (.seq (.seq (.reg .reg [.op (some 30) (.fad 5 (.t 2)),
      .op (some 31) (.load 1 false (.t 30)),
      .op (some 32) (.fad 5 (.t 3)),
      .op (some 33) (.load 1 false (.t 32)),
      .op (some 34) (.bin .neq (.t 31) (.t 33))])
    (.cond (.t 34) (.seq (.reg .reg [.op (some 4) (.mov (.c (.b false)))])
    (.ret))
    (.skip)))
    (.seq (.seq (.reg .reg [.op (some 35) (.fad 6 (.t 2)),
      .op (some 36) (.load 1 false (.t 35)),
      .op (some 37) (.fad 6 (.t 3)),
      .op (some 38) (.load 1 false (.t 37)),
      .op (some 39) (.bin .neq (.t 36) (.t 38))])
    (.cond (.t 39) (.seq (.reg .reg [.op (some 4) (.mov (.c (.b false)))])
    (.ret))
    (.skip)))
    (.seq (.seq (.reg .reg [.op (some 40) (.fad 7 (.t 2)),
      .op (some 41) (.load 1 false (.t 40)),
      .op (some 42) (.fad 7 (.t 3)),
      .op (some 43) (.load 1 false (.t 42)),
      .op (some 44) (.call (.c (.f 51 [])) [.t 41, .t 43]),
      .op (some 45) (.un .not (.t 44))])
    (.cond (.t 45) (.seq (.reg .reg [.op (some 4) (.mov (.c (.b false)))])
    (.ret))
    (.skip)))
    (.seq (.seq (.reg .reg [.op (some 46) (.fad 8 (.t 2)),
      .op (some 47) (.load 1 false (.t 46)),
      .op (some 48) (.fad 8 (.t 3)),
      .op (some 49) (.load 1 false (.t 48)),
      .op (some 50) (.bin .neq (.t 47) (.t 49))])
    (.cond (.t 50) (.seq (.reg .reg [.op (some 4) (.mov (.c (.b false)))])
    (.ret))
    (.skip)))
    (.seq (.reg .reg [.op (some 4) (.mov (.c (.b true)))])
    (.ret)))))))))))⟩
theorem B_laws_eqOrder_ok : checkFn Try.prog Try.f37 B_laws_eqOrder.toA = true := by kernel_rfl
theorem B_laws_eqOrder_wf : B_laws_eqOrder.body.wf = true := by kernel_rfl
theorem okFn_laws_eqOrder : okFn Try.prog 37 = true := by kernel_rfl
def F_laws_eqOrder (N : Nat) (a0 : DOrder) (a1 : DOrder) : Option Bool :=
  bif (!ieq a0.1 a1.1) then
    some false
  else
    bif (!ieq a0.2.1 a1.2.1) then
      some false
    else
      bif (!ieq a0.2.2.1 a1.2.2.1) then
        some false
      else
        bif (!decide (a0.2.2.2.1 = a1.2.2.2.1)) then
          some false
        else
          bif (!decide (a0.2.2.2.2.1 = a1.2.2.2.2.1)) then
            some false
          else
            bif (!ieq a0.2.2.2.2.2.1 a1.2.2.2.2.2.1) then
              some false
            else
              bif (!ieq a0.2.2.2.2.2.2.1 a1.2.2.2.2.2.2.1) then
                some false
              else
                chk (P_laws_eqInt64S N a0.2.2.2.2.2.2.2.1 a1.2.2.2.2.2.2.2.1) <|
                bif (!(G_laws_eqInt64S N a0.2.2.2.2.2.2.2.1 a1.2.2.2.2.2.2.2.1)) then
                  some false
                else
                  bif (!decide (a0.2.2.2.2.2.2.2.2 = a1.2.2.2.2.2.2.2.2)) then
                    some false
                  else
                    some true
theorem F_laws_eqOrder_run (N : Nat) (a0 : DOrder) (a1 : DOrder) :
    runF (O_laws_eqOrder N) N B_laws_eqOrder R_laws_eqOrder (vals T_laws_eqOrder (a0, a1)) = F_laws_eqOrder N a0 a1 := by kernel_rfl
def P_laws_eqOrder (N : Nat) (a0 : DOrder) (a1 : DOrder) : Bool := lock (F_laws_eqOrder N a0 a1).isSome
def G_laws_eqOrder (N : Nat) (a0 : DOrder) (a1 : DOrder) : Bool := lock ((F_laws_eqOrder N a0 a1).getD false)
theorem FG_laws_eqOrder {N : Nat} (a0 : DOrder) (a1 : DOrder) (h : P_laws_eqOrder N a0 a1 = true) : F_laws_eqOrder N a0 a1 = some (G_laws_eqOrder N a0 a1) := by unfold P_laws_eqOrder at h; unfold G_laws_eqOrder; rw [lock_eq] at h ⊢; exact some_of_isSome h
theorem PG_laws_eqOrder {N : Nat} {a0 : DOrder} {a1 : DOrder} {v : Bool} (h : F_laws_eqOrder N a0 a1 = some v) : P_laws_eqOrder N a0 a1 = true ∧ G_laws_eqOrder N a0 a1 = v := by unfold P_laws_eqOrder G_laws_eqOrder; rw [h, lock_eq, lock_eq]; exact ⟨rfl, rfl⟩
def o_laws_eqOrder (N : Nat) : List V → Bool × V := mkO T_laws_eqOrder R_laws_eqOrder (fun (x : (DOrder × DOrder)) => P_laws_eqOrder N x.1 x.2) (fun (x : (DOrder × DOrder)) => G_laws_eqOrder N x.1 x.2)
theorem laws_eqOrder_entry (N : Nat) : Entry Try.prog 37 (o_laws_eqOrder N) := Entry.of fun (x : (DOrder × DOrder)) h =>
  Pf.of_run hm Try.func37 okFn_laws_eqOrder B_laws_eqOrder_ok B_laws_eqOrder_wf (O_laws_eqOrder_ok N) rfl ((F_laws_eqOrder_run N x.1 x.2).trans (FG_laws_eqOrder x.1 x.2 h))
/-! loop.example/g00526/laws.FnExactOrderOk -/
abbrev T_laws_FnExactOrderOk : List GT := [tOrder]
abbrev R_laws_FnExactOrderOk : List GT := [.b]
def fin_laws_FnExactOrderOk : Fr2 → Hp → Option Bool := finF R_laws_FnExactOrderOk [.t 2]
def O_laws_FnExactOrderOk (N : Nat) : Orac := orc [(33, o_laws_szOrder), (35, o_laws_toOrder N), (34, o_spec_OrderOk N), (36, o_impl_OrderOk N), (37, o_laws_eqOrder N)] []
theorem O_laws_FnExactOrderOk_ok (N : Nat) : OrcOk Try.prog (O_laws_FnExactOrderOk N) := OrcOk.of ⟨laws_szOrder_entry, laws_toOrder_entry N, spec_OrderOk_entry N, impl_OrderOk_entry N, laws_eqOrder_entry N, trivial⟩ trivial
def τ_laws_FnExactOrderOk : Nat → Option GT := fun _ => none
def B_laws_FnExactOrderOk : F2 := ⟨27, 1, [.t 2], τ_laws_FnExactOrderOk,
    .seq (.reg .reg [.op (some 1) (.box (.t 0)),
      .op (some 2) (.mov (.c (.b false)))])
    (.seq (.reg .reg [.op (some 3) (.mov (.c (.n .i64 1048576)))])
    (.seq (.reg .reg [.op (some 7) (.load 9 true (.t 1)),
      .op (some 8) (.mov (.t 3)),
      .op (some 9) (.call (.c (.f 33 [])) [.t 7, .t 8]),
      .op (some 3) (.mov (.t 9))])
    (.seq (.seq (.reg .reg [.op (some 10) (.mov (.t 3)),
      .op (some 11) (.bin .lss (.t 10) (.c (.n .i64 0)))])
    (.cond (.t 11) (.seq (.reg .reg [.op (some 2) (.mov (.c (.b true)))])
    (.ret))
    (.skip)))
    (.seq (.reg .reg [.op (some 12) (.load 9 true (.t 1)),
      .op (some 13) (.call (.c (.f 35 [])) [.t 12]),
      .op (some 14) (.call (.c (.f 34 [])) [.t 13]),
      .op (some 4) (.mov (.t 14))])
    (.seq (.reg .reg [.op (some 15) (.load 9 true (.t 1)),
      .op (some 16) (.call (.c (.f 35 [])) [.t 15]),
      .op (some 5) (.aloc [.n .i64 0, .n .i64 0, .n .i64 0, .s ⟨#[]⟩, .s ⟨#[]⟩, .n .i64 0, .n .i64 0, .l 0 0 0, .s ⟨#[]⟩]),
      .op none (.stor 9 (.t 5) (.t 16))])
    (.seq (.reg .reg [.op (some 17) (.load 9 true (.t 5)),
      .op (some 18) (.call (.c (.f 36 [])) [.t 17]),
      .op (some 6) (.mov (.t 18))])
    (.seq (.seq (.reg .reg [.op (some 19) (.mov (.t 6)),
      .op (some 20) (.mov (.t 4)),
      .op (some 21) (.beq true (.t 19) (.t 20))])
    (.cond (.t 21) (.seq (.reg .reg [.op (some 2) (.mov (.c (.b false)))])
    (.ret))
    (.skip)))
    (.seq (.seq (.reg (.dlin 2 3) [.op (some 22) (.load 9 true (.t 5)),
      .op (some 23) (.load 9 true (.t 1)),
      .op (some 24) (.call (.c (.f 35 [])) [.t 23]),
      .op (some 25) (.call (.c (.f 37 [])) [.t 22, .t 24]),
      .op (some 26) (.un .not (.t 25))])
    (.cond (.t 26) (.seq (.reg .reg [.op (some 2) (.mov (.c (.b false)))])
    (.ret))
    (.skip)))
    (.seq (.reg .reg [.op (some 2) (.mov (.c (.b true)))])
    (.ret))))))))))⟩
theorem B_laws_FnExactOrderOk_ok : checkFn Try.prog Try.f7 B_laws_FnExactOrderOk.toA = true := by kernel_rfl
theorem B_laws_FnExactOrderOk_wf : B_laws_FnExactOrderOk.body.wf = true := by kernel_rfl
theorem okFn_laws_FnExactOrderOk : okFn Try.prog 7 = true := by kernel_rfl
def F_laws_FnExactOrderOk (N : Nat) (a0 : DOrder) : Option Bool :=
  bif (ilt (G_laws_szOrder a0 (1048576 : Int)) (0 : Int)) then
    some true
  else
    let r1 : DOrder := (G_laws_toOrder N a0)
    chk (P_laws_toOrder N a0) <|
    chk (P_spec_OrderOk N r1) <|
    let r2 : DOrder := (G_laws_toOrder N a0)
    chk (P_laws_toOrder N a0) <|
    chk (P_impl_OrderOk N r2) <|
    bif (!((G_impl_OrderOk N r2) == (G_spec_OrderOk N r1))) then
      some false
    else
      let r3 : DOrder := (G_laws_toOrder N a0)
      chk (P_laws_toOrder N a0) <|
      chk (P_laws_eqOrder N r2 r3) <|
      bif (!(G_laws_eqOrder N r2 r3)) then
        some false
      else
        some true
theorem F_laws_FnExactOrderOk_run (N : Nat) (a0 : DOrder) :
    runF (O_laws_FnExactOrderOk N) N B_laws_FnExactOrderOk R_laws_FnExactOrderOk (vals T_laws_FnExactOrderOk a0) = F_laws_FnExactOrderOk N a0 := by kernel_rfl
def P_laws_FnExactOrderOk (N : Nat) (a0 : DOrder) : Bool := lock (F_laws_FnExactOrderOk N a0).isSome
def G_laws_FnExactOrderOk (N : Nat) (a0 : DOrder) : Bool := lock ((F_laws_FnExactOrderOk N a0).getD false)
theorem FG_laws_FnExactOrderOk {N : Nat} (a0 : DOrder) (h : P_laws_FnExactOrderOk N a0 = true) : F_laws_FnExactOrderOk N a0 = some (G_laws_FnExactOrderOk N a0) := by unfold P_laws_FnExactOrderOk at h; unfold G_laws_FnExactOrderOk; rw [lock_eq] at h ⊢; exact some_of_isSome h
theorem PG_laws_FnExactOrderOk {N : Nat} {a0 : DOrder} {v : Bool} (h : F_laws_FnExactOrderOk N a0 = some v) : P_laws_FnExactOrderOk N a0 = true ∧ G_laws_FnExactOrderOk N a0 = v := by unfold P_laws_FnExactOrderOk G_laws_FnExactOrderOk; rw [h, lock_eq, lock_eq]; exact ⟨rfl, rfl⟩
def o_laws_FnExactOrderOk (N : Nat) : List V → Bool × V := mkO T_laws_FnExactOrderOk R_laws_FnExactOrderOk (fun (x : DOrder) => P_laws_FnExactOrderOk N x) (fun (x : DOrder) => G_laws_FnExactOrderOk N x)
theorem laws_FnExactOrderOk_entry (N : Nat) : Entry Try.prog 7 (o_laws_FnExactOrderOk N) := Entry.of fun (x : DOrder) h =>
  Pf.of_run hm Try.func7 okFn_laws_FnExactOrderOk B_laws_FnExactOrderOk_ok B_laws_FnExactOrderOk_wf (O_laws_FnExactOrderOk_ok N) rfl ((F_laws_FnExactOrderOk_run N x).trans (FG_laws_FnExactOrderOk x h))
end
end Go.Proofs.Ytfeedfknflbpjaa.AM
