/- The texts of the functions that the law FnExactLetterOk reaches, what their runs yield, and their contracts. Printed by a program. -/
import Derived.Test.YtfeedfknflbpjaaRh
import Derived.Test.YtfeedfknflbpjaaShContains
import Derived.Test.YtfeedfknflbpjaaProg
import Derived.KernelRfl
namespace Go.Proofs.Ytfeedfknflbpjaa.AM
open Go
set_option linter.all false
set_option maxRecDepth 100000
theorem hm : Try.prog.follows .mixedOrders = true := by kernel_rfl
theorem cond_some {α : Type} (c : Bool) (a b : α) : (bif c then some a else some b) = some (bif c then a else b) := by cases c <;> rfl
theorem some_of_isSome {α : Type} {o : Option α} {d : α} (h : o.isSome = true) : o = some (o.getD d) := by cases o with | none => cases h | some _ => rfl

abbrev tItem : GT := (.st [(.i .i64), .s])
abbrev DItem : Type := (Int × ByteArray)
abbrev dItem : DItem := ((0 : Int), (⟨#[]⟩ : ByteArray))
abbrev tKeeper : GT := (.st [(.i .i64), (.i .i64), (.i .i64), (.sl tItem), (.i .i64), (.i .i64), (.i .i64), (.sl (.i .i64)), (.sl (.i .i64)), .b])
abbrev DKeeper : Type := (Int × Int × Int × List DItem × Int × Int × Int × List Int × List Int × Bool)
abbrev dKeeper : DKeeper := ((0 : Int), (0 : Int), (0 : Int), [], (0 : Int), (0 : Int), (0 : Int), [], [], false)
abbrev tBin : GT := (.st [.s, (.i .i64)])
abbrev DBin : Type := (ByteArray × Int)
abbrev dBin : DBin := ((⟨#[]⟩ : ByteArray), (0 : Int))
abbrev tCore : GT := (.st [(.i .i64), (.sl (.i .i64)), (.sl tBin), (.i .i64), (.i .i64)])
abbrev DCore : Type := (Int × List Int × List DBin × Int × Int)
abbrev dCore : DCore := ((0 : Int), [], [], (0 : Int), (0 : Int))
abbrev tLetter : GT := (.st [(.i .i64), (.i .i64), (.i .i64), (.i .i64), (.i .i64), (.i .i64), (.sl tItem), (.i .i64), .b])
abbrev DLetter : Type := (Int × Int × Int × Int × Int × Int × List DItem × Int × Bool)
abbrev dLetter : DLetter := ((0 : Int), (0 : Int), (0 : Int), (0 : Int), (0 : Int), (0 : Int), [], (0 : Int), false)
abbrev tOrder : GT := (.st [(.i .i64), (.i .i64), (.i .i64), .s, .s, (.i .i64), (.i .i64), (.sl (.i .i64)), .s])
abbrev DOrder : Type := (Int × Int × Int × ByteArray × ByteArray × Int × Int × List Int × ByteArray)
abbrev dOrder : DOrder := ((0 : Int), (0 : Int), (0 : Int), (⟨#[]⟩ : ByteArray), (⟨#[]⟩ : ByteArray), (0 : Int), (0 : Int), [], (⟨#[]⟩ : ByteArray))
abbrev tOp : GT := (.st [(.i .i64), (.i .i64), .s])
abbrev DOp : Type := (Int × Int × ByteArray)
abbrev dOp : DOp := ((0 : Int), (0 : Int), (⟨#[]⟩ : ByteArray))
abbrev tKey : GT := (.st [.s, .s, (.i .i64)])
abbrev DKey : Type := (ByteArray × ByteArray × Int)
abbrev dKey : DKey := ((⟨#[]⟩ : ByteArray), (⟨#[]⟩ : ByteArray), (0 : Int))
abbrev tCell : GT := (.st [tKey, (.i .i64), .b])
abbrev DCell : Type := (DKey × Int × Bool)
abbrev dCell : DCell := (dKey, (0 : Int), false)
abbrev tBarn : GT := (.st [(.sl tCell), (.sl (.sl tCell))])
abbrev DBarn : Type := (List DCell × List (List DCell))
abbrev dBarn : DBarn := ([], [])
abbrev tLore : GT := (.st [.s, (.sl .s)])
abbrev DLore : Type := (ByteArray × List ByteArray)
abbrev dLore : DLore := ((⟨#[]⟩ : ByteArray), [])
abbrev tReply : GT := (.st [(.i .i64), (.i .i64)])
abbrev DReply : Type := (Int × Int)
abbrev dReply : DReply := ((0 : Int), (0 : Int))
abbrev tSeen : GT := (.st [(.i .i64), tReply])
abbrev DSeen : Type := (Int × DReply)
abbrev dSeen : DSeen := ((0 : Int), dReply)
abbrev tBook : GT := (.st [tBarn, (.sl tLore), (.sl tSeen), (.i .i64)])
abbrev DBook : Type := (DBarn × List DLore × List DSeen × Int)
abbrev dBook : DBook := (dBarn, [], [], (0 : Int))
/-! loop.example/g00526/laws.szItem -/
abbrev T_laws_szItem : List GT := [tItem, (.i .i64)]
abbrev R_laws_szItem : List GT := [(.i .i64)]
def fin_laws_szItem : Fr2 → Hp → Option Int := finF R_laws_szItem [.t 4]
def O_laws_szItem (N : Nat) : Orac := orc [] []
theorem O_laws_szItem_ok (N : Nat) : OrcOk Try.prog (O_laws_szItem N) := OrcOk.of trivial trivial
def τ_laws_szItem : Nat → Option GT := fun _ => none
def B_laws_szItem : F2 := ⟨13, 2, [.t 4], τ_laws_szItem,
    .seq (.reg .reg [.op (some 2) (.box (.t 0)),
      .op (some 4) (.mov (.c (.n .i64 0)))])
    (.seq (.reg .reg [.op (some 5) (.mov (.t 1)),
      .op (some 6) (.fad 1 (.t 2)),
      .op (some 7) (.load 1 false (.t 6)),
      .op (some 8) (.len true (.t 7)),
      .op (some 9) (.bin .sub (.t 5) (.t 8)),
      .op (some 1) (.mov (.t 9))])
    (.seq (.seq (.reg .reg [.op (some 10) (.mov (.t 1)),
      .op (some 11) (.bin .lss (.t 10) (.c (.n .i64 0)))])
    (.cond (.t 11) (.seq (.reg .reg [.op (some 4) (.mov (.c (.n .i64 (-1))))])
    (.ret))
    (.skip)))
    (.seq (.reg .reg [.op (some 12) (.mov (.t 1)),
      .op (some 4) (.mov (.t 12))])
    (.ret))))⟩
theorem B_laws_szItem_ok : checkFn Try.prog Try.f99 B_laws_szItem.toA = true := by kernel_rfl
theorem B_laws_szItem_wf : B_laws_szItem.body.wf = true := by kernel_rfl
theorem okFn_laws_szItem : okFn Try.prog 99 = true := by kernel_rfl
def F_laws_szItem (N : Nat) (a0 : DItem) (a1 : Int) : Option Int :=
  bif (ilt (w64 (a1 - (a0.2.size : Int))) (0 : Int)) then
    some (-1 : Int)
  else
    some (w64 (a1 - (a0.2.size : Int)))
theorem F_laws_szItem_run (N : Nat) (a0 : DItem) (a1 : Int) :
    runF (O_laws_szItem N) N B_laws_szItem R_laws_szItem (vals T_laws_szItem (a0, a1)) = F_laws_szItem N a0 a1 := by kernel_rfl
def G_laws_szItem (a0 : DItem) (a1 : Int) : Int :=
  bif (ilt (w64 (a1 - (a0.2.size : Int))) (0 : Int)) then
    (-1 : Int)
  else
    (w64 (a1 - (a0.2.size : Int)))
theorem FG_laws_szItem (N : Nat) (a0 : DItem) (a1 : Int) : F_laws_szItem N a0 a1 = some (G_laws_szItem a0 a1) := by
  first | rfl | (simp only [F_laws_szItem, G_laws_szItem, cond_some]; done) | (unfold F_laws_szItem G_laws_szItem; simp only [cond_some]; done)
def o_laws_szItem : List V → Bool × V := mkO T_laws_szItem R_laws_szItem (fun (x : (DItem × Int)) => true) (fun (x : (DItem × Int)) => G_laws_szItem x.1 x.2)
theorem laws_szItem_entry : Entry Try.prog 99 o_laws_szItem := Entry.of fun (x : (DItem × Int)) _ =>
  Pf.of_run hm Try.func99 okFn_laws_szItem B_laws_szItem_ok B_laws_szItem_wf (O_laws_szItem_ok 0) rfl ((F_laws_szItem_run 0 x.1 x.2).trans (FG_laws_szItem 0 x.1 x.2))
/-! loop.example/g00526/laws.szItemS -/
abbrev T_laws_szItemS : List GT := [(.sl tItem), (.i .i64)]
abbrev R_laws_szItemS : List GT := [(.i .i64)]
def fin_laws_szItemS : Fr2 → Hp → Option Int := finF R_laws_szItemS [.t 4]
def O_laws_szItemS (N : Nat) : Orac := orc [(99, o_laws_szItem)] []
theorem O_laws_szItemS_ok (N : Nat) : OrcOk Try.prog (O_laws_szItemS N) := OrcOk.of ⟨laws_szItem_entry, trivial⟩ trivial
def c_laws_szItemS_1 : C2 :=
    .seq (.seq (.reg .reg [.op (some 12) (.mov (.t 5)),
      .op (some 13) (.mov (.t 0)),
      .op (some 14) (.len false (.t 13)),
      .op (some 15) (.bin .lss (.t 12) (.t 14))])
    (.cond (.t 15) (.skip)
    (.exit 0)))
    (.seq (.block 1 (.seq (.reg .reg [.op (some 18) (.mov (.t 0)),
      .op (some 19) (.mov (.t 5)),
      .op (some 20) (.iad 2 (.t 18) (.t 19)),
      .op (some 21) (.load 2 true (.t 20)),
      .op (some 22) (.mov (.t 1)),
      .op (some 23) (.call (.c (.f 99 [])) [.t 21, .t 22]),
      .op (some 1) (.mov (.t 23))])
    (.seq (.reg .reg [.op (some 24) (.mov (.t 1)),
      .op (some 25) (.bin .lss (.t 24) (.c (.n .i64 0)))])
    (.cond (.t 25) (.seq (.reg .reg [.op (some 4) (.mov (.c (.n .i64 (-1))))])
    (.ret))
    (.skip)))))
    (.reg .reg [.op (some 16) (.mov (.t 5)),
      .op (some 17) (.bin .add (.t 16) (.c (.n .i64 1))),
      .op (some 5) (.mov (.t 17))]))
def c_laws_szItemS_2 : C2 :=
    .seq (.reg .reg [.op (some 26) (.mov (.t 1)),
      .op (some 4) (.mov (.t 26))])
    (.ret)
def τ_laws_szItemS : Nat → Option GT := fun _ => none
def B_laws_szItemS : F2 := ⟨27, 2, [.t 4], τ_laws_szItemS,
    .seq (.reg .reg [.op (some 4) (.mov (.c (.n .i64 0)))])
    (.seq (.reg .reg [.op (some 6) (.mov (.t 1)),
      .op (some 7) (.mov (.t 0)),
      .op (some 8) (.len false (.t 7)),
      .op (some 9) (.bin .sub (.t 6) (.t 8)),
      .op (some 1) (.mov (.t 9))])
    (.seq (.seq (.reg .reg [.op (some 10) (.mov (.t 1)),
      .op (some 11) (.bin .lss (.t 10) (.c (.n .i64 0)))])
    (.cond (.t 11) (.seq (.reg .reg [.op (some 4) (.mov (.c (.n .i64 (-1))))])
    (.ret))
    (.skip)))
    (.seq (.seq (.reg .reg [.op (some 5) (.mov (.c (.n .i64 0)))])
    (.block 0 (.loop [0, 1, 5] [] [1] c_laws_szItemS_1)))
    (c_laws_szItemS_2))))⟩
theorem B_laws_szItemS_ok : checkFn Try.prog Try.f72 B_laws_szItemS.toA = true := by kernel_rfl
theorem B_laws_szItemS_wf : B_laws_szItemS.body.wf = true := by kernel_rfl
theorem okFn_laws_szItemS : okFn Try.prog 72 = true := by kernel_rfl
def laws_szItemS_l1s (r0 : Int → Int → Option Int) (k0_0 : Int → Option Int) (N : Nat) (a0 : List DItem) (v1_1 : Int) (v5_1 : Int) : Option Int :=
  bif (ilt v5_1 ((a0.length) : Int)) then
    let x1 : DItem := (a0.getD (v5_1.toNat) dItem)
    chk (inb v5_1 (a0.length)) <|
    bif (ilt (G_laws_szItem x1 v1_1) (0 : Int)) then
      some (-1 : Int)
    else
      r0 (G_laws_szItem x1 v1_1) (w64 (v5_1 + (1 : Int)))
  else
    k0_0 v1_1
theorem laws_szItemS_l1s_run (N : Nat) (C0 : Fr2 → Hp → Option Int) (K0 : Option Nat → Fr2 → Hp → Option Int) (a0 : List DItem) (v1_1 : Int) (v5_1 : Int) :
    rcode (O_laws_szItemS N) τ_laws_szItemS N fin_laws_szItemS c_laws_szItemS_1 [(0, .q tItem a0), (1, .n .i64 v1_1), (5, .n .i64 v5_1)] ⟨1, []⟩ (roundK [0, 1, 5] [] [1] C0 K0) = laws_szItemS_l1s (fun v1_1 v5_1 => C0 [(0, .q tItem a0), (1, .n .i64 v1_1), (5, .n .i64 v5_1)] ⟨1, []⟩) (fun ev1_1 => K0 (some 0) [(1, .n .i64 ev1_1)] ⟨1, []⟩) N a0 v1_1 v5_1 := by kernel_rfl
def laws_szItemS_x1_0 (N : Nat) (ev1_1 : Int) : Option Int :=
  some ev1_1
theorem laws_szItemS_x1_0_run (N : Nat) (ev1_1 : Int) :
    (blockK 0 (seqK' (fun fr H K => rcode (O_laws_szItemS N) τ_laws_szItemS N fin_laws_szItemS c_laws_szItemS_2 fr H K) (finK R_laws_szItemS [.t 4]))) (some 0) [(1, .n .i64 ev1_1)] ⟨1, []⟩ = laws_szItemS_x1_0 N ev1_1 := by kernel_rfl
def laws_szItemS_l1 (k0_0 : Int → Option Int) (N : Nat) (a0 : List DItem) : Nat → Int → Int → Option Int
  | 0, _, _ => none
  | n + 1, v1_1, v5_1 => laws_szItemS_l1s (laws_szItemS_l1 k0_0 N a0 n) k0_0 N a0 v1_1 v5_1
def laws_szItemS_h1 (N : Nat) (a0 : List DItem) (v1_1 : Int) (v5_1 : Int) : Option Int :=
  laws_szItemS_l1 (fun ev1_1 => laws_szItemS_x1_0 N ev1_1) N a0 N v1_1 v5_1
theorem laws_szItemS_l1_run (N : Nat)  (K : Option Nat → Fr2 → Hp → Option Int) (a0 : List DItem) : ∀ (n : Nat) (v1_1 : Int) (v5_1 : Int),
    rloop (fun fr H K => rcode (O_laws_szItemS N) τ_laws_szItemS N fin_laws_szItemS c_laws_szItemS_1 fr H K) [0, 1, 5] [] [1] K n [(0, .q tItem a0), (1, .n .i64 v1_1), (5, .n .i64 v5_1)] ⟨1, []⟩ = laws_szItemS_l1 (fun ev1_1 => K (some 0) [(1, .n .i64 ev1_1)] ⟨1, []⟩) N a0 n v1_1 v5_1 := by
  intro n
  induction n with
  | zero => intro v1_1 v5_1; kernel_rfl
  | succ n ih => intro v1_1 v5_1; exact (laws_szItemS_l1s_run N (rloop (fun fr H K => rcode (O_laws_szItemS N) τ_laws_szItemS N fin_laws_szItemS c_laws_szItemS_1 fr H K) [0, 1, 5] [] [1] K n) K a0 v1_1 v5_1).trans (congrArg (fun r => laws_szItemS_l1s r (fun ev1_1 => K (some 0) [(1, .n .i64 ev1_1)] ⟨1, []⟩) N a0 v1_1 v5_1) (funext fun v1_1 => funext fun v5_1 => ih v1_1 v5_1))
theorem laws_szItemS_h1_run (N : Nat) (a0 : List DItem) (v1_1 : Int) (v5_1 : Int) : rloop (fun fr H K => rcode (O_laws_szItemS N) τ_laws_szItemS N fin_laws_szItemS c_laws_szItemS_1 fr H K) [0, 1, 5] [] [1] (blockK 0 (seqK' (fun fr H K => rcode (O_laws_szItemS N) τ_laws_szItemS N fin_laws_szItemS c_laws_szItemS_2 fr H K) (finK R_laws_szItemS [.t 4]))) N [(0, .q tItem a0), (1, .n .i64 v1_1), (5, .n .i64 v5_1)] ⟨1, []⟩ = laws_szItemS_h1 N a0 v1_1 v5_1 :=
  ((laws_szItemS_l1_run N (blockK 0 (seqK' (fun fr H K => rcode (O_laws_szItemS N) τ_laws_szItemS N fin_laws_szItemS c_laws_szItemS_2 fr H K) (finK R_laws_szItemS [.t 4]))) a0 N v1_1 v5_1)).trans (congrArg (fun h => laws_szItemS_l1 h N a0 N v1_1 v5_1) (funext fun ev1_1 => laws_szItemS_x1_0_run N ev1_1))
def F_laws_szItemSR (N : Nat) (laws_szItemS_h1 : List DItem → Int → Int → Option Int) (a0 : List DItem) (a1 : Int) : Option Int :=
  bif (ilt (w64 (a1 - ((a0.length) : Int))) (0 : Int)) then
    some (-1 : Int)
  else
    laws_szItemS_h1 a0 (w64 (a1 - ((a0.length) : Int))) (0 : Int)
def F_laws_szItemS (N : Nat) (a0 : List DItem) (a1 : Int) : Option Int := F_laws_szItemSR N (laws_szItemS_h1 N) a0 a1
theorem F_laws_szItemS_raw (N : Nat) (a0 : List DItem) (a1 : Int) :
    runF (O_laws_szItemS N) N B_laws_szItemS R_laws_szItemS (vals T_laws_szItemS (a0, a1)) = F_laws_szItemSR N (fun a0 v1_1 v5_1 => rloop (fun fr H K => rcode (O_laws_szItemS N) τ_laws_szItemS N fin_laws_szItemS c_laws_szItemS_1 fr H K) [0, 1, 5] [] [1] (blockK 0 (seqK' (fun fr H K => rcode (O_laws_szItemS N) τ_laws_szItemS N fin_laws_szItemS c_laws_szItemS_2 fr H K) (finK R_laws_szItemS [.t 4]))) N [(0, .q tItem a0), (1, .n .i64 v1_1), (5, .n .i64 v5_1)] ⟨1, []⟩) a0 a1 := by kernel_rfl
theorem F_laws_szItemS_run (N : Nat) (a0 : List DItem) (a1 : Int) :
    runF (O_laws_szItemS N) N B_laws_szItemS R_laws_szItemS (vals T_laws_szItemS (a0, a1)) = F_laws_szItemS N a0 a1 :=
  (F_laws_szItemS_raw N a0 a1).trans (congrArg (fun h => F_laws_szItemSR N h a0 a1) (funext fun a0 => funext fun v1_1 => funext fun v5_1 => laws_szItemS_h1_run N a0 v1_1 v5_1))
def P_laws_szItemS (N : Nat) (a0 : List DItem) (a1 : Int) : Bool := (F_laws_szItemS N a0 a1).isSome
def G_laws_szItemS (N : Nat) (a0 : List DItem) (a1 : Int) : Int := (F_laws_szItemS N a0 a1).getD (0 : Int)
theorem FG_laws_szItemS {N : Nat} (a0 : List DItem) (a1 : Int) (h : P_laws_szItemS N a0 a1 = true) : F_laws_szItemS N a0 a1 = some (G_laws_szItemS N a0 a1) := some_of_isSome h
theorem PG_laws_szItemS {N : Nat} {a0 : List DItem} {a1 : Int} {v : Int} (h : F_laws_szItemS N a0 a1 = some v) : P_laws_szItemS N a0 a1 = true ∧ G_laws_szItemS N a0 a1 = v := by unfold P_laws_szItemS G_laws_szItemS; rw [h]; exact ⟨rfl, rfl⟩
def o_laws_szItemS (N : Nat) : List V → Bool × V := mkO T_laws_szItemS R_laws_szItemS (fun (x : (List DItem × Int)) => P_laws_szItemS N x.1 x.2) (fun (x : (List DItem × Int)) => G_laws_szItemS N x.1 x.2)
theorem laws_szItemS_entry (N : Nat) : Entry Try.prog 72 (o_laws_szItemS N) := Entry.of fun (x : (List DItem × Int)) h =>
  Pf.of_run hm Try.func72 okFn_laws_szItemS B_laws_szItemS_ok B_laws_szItemS_wf (O_laws_szItemS_ok N) rfl ((F_laws_szItemS_run N x.1 x.2).trans (FG_laws_szItemS x.1 x.2 h))
/-! loop.example/g00526/laws.szLetter -/
abbrev T_laws_szLetter : List GT := [tLetter, (.i .i64)]
abbrev R_laws_szLetter : List GT := [(.i .i64)]
def fin_laws_szLetter : Fr2 → Hp → Option Int := finF R_laws_szLetter [.t 4]
def O_laws_szLetter (N : Nat) : Orac := orc [(72, o_laws_szItemS N)] []
theorem O_laws_szLetter_ok (N : Nat) : OrcOk Try.prog (O_laws_szLetter N) := OrcOk.of ⟨laws_szItemS_entry N, trivial⟩ trivial
def τ_laws_szLetter : Nat → Option GT := fun _ => none
def B_laws_szLetter : F2 := ⟨12, 2, [.t 4], τ_laws_szLetter,
    .seq (.reg .reg [.op (some 2) (.box (.t 0)),
      .op (some 4) (.mov (.c (.n .i64 0)))])
    (.seq (.reg .reg [.op (some 5) (.fad 6 (.t 2)),
      .op (some 6) (.load 1 false (.t 5)),
      .op (some 7) (.mov (.t 1)),
      .op (some 8) (.call (.c (.f 72 [])) [.t 6, .t 7]),
      .op (some 1) (.mov (.t 8))])
    (.seq (.seq (.reg .reg [.op (some 9) (.mov (.t 1)),
      .op (some 10) (.bin .lss (.t 9) (.c (.n .i64 0)))])
    (.cond (.t 10) (.seq (.reg .reg [.op (some 4) (.mov (.c (.n .i64 (-1))))])
    (.ret))
    (.skip)))
    (.seq (.reg .reg [.op (some 11) (.mov (.t 1)),
      .op (some 4) (.mov (.t 11))])
    (.ret))))⟩
theorem B_laws_szLetter_ok : checkFn Try.prog Try.f28 B_laws_szLetter.toA = true := by kernel_rfl
theorem B_laws_szLetter_wf : B_laws_szLetter.body.wf = true := by kernel_rfl
theorem okFn_laws_szLetter : okFn Try.prog 28 = true := by kernel_rfl
def F_laws_szLetter (N : Nat) (a0 : DLetter) (a1 : Int) : Option Int :=
  chk (P_laws_szItemS N a0.2.2.2.2.2.2.1 a1) <|
  bif (ilt (G_laws_szItemS N a0.2.2.2.2.2.2.1 a1) (0 : Int)) then
    some (-1 : Int)
  else
    some (G_laws_szItemS N a0.2.2.2.2.2.2.1 a1)
theorem F_laws_szLetter_run (N : Nat) (a0 : DLetter) (a1 : Int) :
    runF (O_laws_szLetter N) N B_laws_szLetter R_laws_szLetter (vals T_laws_szLetter (a0, a1)) = F_laws_szLetter N a0 a1 := by kernel_rfl
def P_laws_szLetter (N : Nat) (a0 : DLetter) (a1 : Int) : Bool := (F_laws_szLetter N a0 a1).isSome
def G_laws_szLetter (N : Nat) (a0 : DLetter) (a1 : Int) : Int := (F_laws_szLetter N a0 a1).getD (0 : Int)
theorem FG_laws_szLetter {N : Nat} (a0 : DLetter) (a1 : Int) (h : P_laws_szLetter N a0 a1 = true) : F_laws_szLetter N a0 a1 = some (G_laws_szLetter N a0 a1) := some_of_isSome h
theorem PG_laws_szLetter {N : Nat} {a0 : DLetter} {a1 : Int} {v : Int} (h : F_laws_szLetter N a0 a1 = some v) : P_laws_szLetter N a0 a1 = true ∧ G_laws_szLetter N a0 a1 = v := by unfold P_laws_szLetter G_laws_szLetter; rw [h]; exact ⟨rfl, rfl⟩
def o_laws_szLetter (N : Nat) : List V → Bool × V := mkO T_laws_szLetter R_laws_szLetter (fun (x : (DLetter × Int)) => P_laws_szLetter N x.1 x.2) (fun (x : (DLetter × Int)) => G_laws_szLetter N x.1 x.2)
theorem laws_szLetter_entry (N : Nat) : Entry Try.prog 28 (o_laws_szLetter N) := Entry.of fun (x : (DLetter × Int)) h =>
  Pf.of_run hm Try.func28 okFn_laws_szLetter B_laws_szLetter_ok B_laws_szLetter_wf (O_laws_szLetter_ok N) rfl ((F_laws_szLetter_run N x.1 x.2).trans (FG_laws_szLetter x.1 x.2 h))
/-! loop.example/g00526/laws.toItem -/
abbrev T_laws_toItem : List GT := [tItem]
abbrev R_laws_toItem : List GT := [tItem]
def fin_laws_toItem : Fr2 → Hp → Option DItem := finF R_laws_toItem [.cell 2 2 true]
def O_laws_toItem (N : Nat) : Orac := orc [] []
theorem O_laws_toItem_ok (N : Nat) : OrcOk Try.prog (O_laws_toItem N) := OrcOk.of trivial trivial
def τ_laws_toItem : Nat → Option GT := fun _ => none
def B_laws_toItem : F2 := ⟨11, 1, [.cell 2 2 true], τ_laws_toItem,
    .seq (.reg .reg [.op (some 1) (.box (.t 0)),
      .op (some 2) (.aloc [.n .i64 0, .s ⟨#[]⟩])])
    (.seq (.reg .reg [.op (some 3) (.aloc [.n .i64 0, .s ⟨#[]⟩])])
    (.seq (.reg .reg [.op (some 4) (.fad 0 (.t 1)),
      .op (some 5) (.load 1 false (.t 4)),
      .op (some 6) (.fad 0 (.t 3)),
      .op none (.stor 1 (.t 6) (.t 5))])
    (.seq (.reg .reg [.op (some 7) (.fad 1 (.t 1)),
      .op (some 8) (.load 1 false (.t 7)),
      .op (some 9) (.fad 1 (.t 3)),
      .op none (.stor 1 (.t 9) (.t 8))])
    (.seq (.reg .reg [.op (some 10) (.load 2 true (.t 3)),
      .op none (.stor 2 (.t 2) (.t 10))])
    (.ret)))))⟩
theorem B_laws_toItem_ok : checkFn Try.prog Try.f100 B_laws_toItem.toA = true := by kernel_rfl
theorem B_laws_toItem_wf : B_laws_toItem.body.wf = true := by kernel_rfl
theorem okFn_laws_toItem : okFn Try.prog 100 = true := by kernel_rfl
def F_laws_toItem (N : Nat) (a0 : DItem) : Option DItem :=
  some a0
theorem F_laws_toItem_run (N : Nat) (a0 : DItem) :
    runF (O_laws_toItem N) N B_laws_toItem R_laws_toItem (vals T_laws_toItem a0) = F_laws_toItem N a0 := by kernel_rfl
def G_laws_toItem (a0 : DItem) : DItem :=
  a0
theorem FG_laws_toItem (N : Nat) (a0 : DItem) : F_laws_toItem N a0 = some (G_laws_toItem a0) := by
  first | rfl | (simp only [F_laws_toItem, G_laws_toItem, cond_some]; done) | (unfold F_laws_toItem G_laws_toItem; simp only [cond_some]; done)
def o_laws_toItem : List V → Bool × V := mkO T_laws_toItem R_laws_toItem (fun (x : DItem) => true) (fun (x : DItem) => G_laws_toItem x)
theorem laws_toItem_entry : Entry Try.prog 100 o_laws_toItem := Entry.of fun (x : DItem) _ =>
  Pf.of_run hm Try.func100 okFn_laws_toItem B_laws_toItem_ok B_laws_toItem_wf (O_laws_toItem_ok 0) rfl ((F_laws_toItem_run 0 x).trans (FG_laws_toItem 0 x))
/-! loop.example/g00526/laws.toItemS -/
abbrev T_laws_toItemS : List GT := [(.sl tItem)]
abbrev R_laws_toItemS : List GT := [(.sl tItem)]
def fin_laws_toItemS : Fr2 → Hp → Option (List DItem) := finF R_laws_toItemS [.t 2]
def O_laws_toItemS (N : Nat) : Orac := orc [(100, o_laws_toItem)] []
theorem O_laws_toItemS_ok (N : Nat) : OrcOk Try.prog (O_laws_toItemS N) := OrcOk.of ⟨laws_toItem_entry, trivial⟩ trivial
def c_laws_toItemS_1 : C2 :=
    .seq (.seq (.reg .reg [.op (some 8) (.mov (.t 4)),
      .op (some 9) (.mov (.t 0)),
      .op (some 10) (.len false (.t 9)),
      .op (some 11) (.bin .lss (.t 8) (.t 10))])
    (.cond (.t 11) (.skip)
    (.exit 0)))
    (.seq (.block 1 (.reg .reg [.op (some 14) (.mov (.t 3)),
      .op (some 15) (.mov (.t 4)),
      .op (some 16) (.mov (.t 0)),
      .op (some 17) (.mov (.t 4)),
      .op (some 18) (.iad 2 (.t 16) (.t 17)),
      .op (some 19) (.load 2 true (.t 18)),
      .op (some 20) (.call (.c (.f 100 [])) [.t 19]),
      .op (some 21) (.iad 2 (.t 14) (.t 15)),
      .op none (.stor 2 (.t 21) (.t 20))]))
    (.reg .reg [.op (some 12) (.mov (.t 4)),
      .op (some 13) (.bin .add (.t 12) (.c (.n .i64 1))),
      .op (some 4) (.mov (.t 13))]))
def c_laws_toItemS_2 : C2 :=
    .seq (.reg .reg [.op (some 22) (.mov (.t 3)),
      .op (some 2) (.mov (.t 22))])
    (.ret)
def τ_laws_toItemS : Nat → Option GT
  | 7 => some tItem
  | _ => none
def B_laws_toItemS : F2 := ⟨23, 1, [.t 2], τ_laws_toItemS,
    .seq (.reg .reg [.op (some 2) (.mov (.c (.l 0 0 0)))])
    (.seq (.reg .reg [.op (some 5) (.mov (.t 0)),
      .op (some 6) (.len false (.t 5)),
      .op (some 7) (.mks 24 [.n .i64 0, .s ⟨#[]⟩] (.t 6)),
      .op (some 3) (.mov (.t 7))])
    (.seq (.seq (.reg .reg [.op (some 4) (.mov (.c (.n .i64 0)))])
    (.block 0 (.loop [0, 3, 4] [] [3] c_laws_toItemS_1)))
    (c_laws_toItemS_2)))⟩
theorem B_laws_toItemS_ok : checkFn Try.prog Try.f74 B_laws_toItemS.toA = true := by kernel_rfl
theorem B_laws_toItemS_wf : B_laws_toItemS.body.wf = true := by kernel_rfl
theorem okFn_laws_toItemS : okFn Try.prog 74 = true := by kernel_rfl
def laws_toItemS_l1s (r0 : Int → List DItem → Option (List DItem)) (k0_0 : List DItem → Option (List DItem)) (N : Nat) (a0 : List DItem) (v4_1 : Int) (h1_1 : List DItem) : Option (List DItem) :=
  bif (ilt v4_1 ((a0.length) : Int)) then
    let x1 : DItem := (a0.getD (v4_1.toNat) dItem)
    let r1 : DItem := (G_laws_toItem x1)
    let h1 : List DItem := (h1_1.set (v4_1.toNat) r1)
    chk (inb v4_1 (a0.length)) <|
    chk (inb v4_1 (h1_1.length)) <|
    r0 (w64 (v4_1 + (1 : Int))) h1
  else
    k0_0 h1_1
theorem laws_toItemS_l1s_run (N : Nat) (C0 : Fr2 → Hp → Option (List DItem)) (K0 : Option Nat → Fr2 → Hp → Option (List DItem)) (a0 : List DItem) (v4_1 : Int) (h1_1 : List DItem) :
    rcode (O_laws_toItemS N) τ_laws_toItemS N fin_laws_toItemS c_laws_toItemS_1 [(0, .q tItem a0), (3, .w 1), (4, .n .i64 v4_1)] ⟨2, [(1, .ty tItem h1_1)]⟩ (roundK [0, 3, 4] [] [3] C0 K0) = laws_toItemS_l1s (fun v4_1 h1_1 => C0 [(0, .q tItem a0), (3, .w 1), (4, .n .i64 v4_1)] ⟨2, [(1, .ty tItem h1_1)]⟩) (fun eh1_1 => K0 (some 0) [(3, .w 1)] ⟨2, [(1, .ty tItem eh1_1)]⟩) N a0 v4_1 h1_1 := by kernel_rfl
def laws_toItemS_x1_0 (N : Nat) (eh1_1 : List DItem) : Option (List DItem) :=
  some eh1_1
theorem laws_toItemS_x1_0_run (N : Nat) (eh1_1 : List DItem) :
    (blockK 0 (seqK' (fun fr H K => rcode (O_laws_toItemS N) τ_laws_toItemS N fin_laws_toItemS c_laws_toItemS_2 fr H K) (finK R_laws_toItemS [.t 2]))) (some 0) [(3, .w 1)] ⟨2, [(1, .ty tItem eh1_1)]⟩ = laws_toItemS_x1_0 N eh1_1 := by kernel_rfl
def laws_toItemS_l1 (k0_0 : List DItem → Option (List DItem)) (N : Nat) (a0 : List DItem) : Nat → Int → List DItem → Option (List DItem)
  | 0, _, _ => none
  | n + 1, v4_1, h1_1 => laws_toItemS_l1s (laws_toItemS_l1 k0_0 N a0 n) k0_0 N a0 v4_1 h1_1
def laws_toItemS_h1 (N : Nat) (a0 : List DItem) (v4_1 : Int) (h1_1 : List DItem) : Option (List DItem) :=
  laws_toItemS_l1 (fun eh1_1 => laws_toItemS_x1_0 N eh1_1) N a0 N v4_1 h1_1
theorem laws_toItemS_l1_run (N : Nat)  (K : Option Nat → Fr2 → Hp → Option (List DItem)) (a0 : List DItem) : ∀ (n : Nat) (v4_1 : Int) (h1_1 : List DItem),
    rloop (fun fr H K => rcode (O_laws_toItemS N) τ_laws_toItemS N fin_laws_toItemS c_laws_toItemS_1 fr H K) [0, 3, 4] [] [3] K n [(0, .q tItem a0), (3, .w 1), (4, .n .i64 v4_1)] ⟨2, [(1, .ty tItem h1_1)]⟩ = laws_toItemS_l1 (fun eh1_1 => K (some 0) [(3, .w 1)] ⟨2, [(1, .ty tItem eh1_1)]⟩) N a0 n v4_1 h1_1 := by
  intro n
  induction n with
  | zero => intro v4_1 h1_1; kernel_rfl
  | succ n ih => intro v4_1 h1_1; exact (laws_toItemS_l1s_run N (rloop (fun fr H K => rcode (O_laws_toItemS N) τ_laws_toItemS N fin_laws_toItemS c_laws_toItemS_1 fr H K) [0, 3, 4] [] [3] K n) K a0 v4_1 h1_1).trans (congrArg (fun r => laws_toItemS_l1s r (fun eh1_1 => K (some 0) [(3, .w 1)] ⟨2, [(1, .ty tItem eh1_1)]⟩) N a0 v4_1 h1_1) (funext fun v4_1 => funext fun h1_1 => ih v4_1 h1_1))
theorem laws_toItemS_h1_run (N : Nat) (a0 : List DItem) (v4_1 : Int) (h1_1 : List DItem) : rloop (fun fr H K => rcode (O_laws_toItemS N) τ_laws_toItemS N fin_laws_toItemS c_laws_toItemS_1 fr H K) [0, 3, 4] [] [3] (blockK 0 (seqK' (fun fr H K => rcode (O_laws_toItemS N) τ_laws_toItemS N fin_laws_toItemS c_laws_toItemS_2 fr H K) (finK R_laws_toItemS [.t 2]))) N [(0, .q tItem a0), (3, .w 1), (4, .n .i64 v4_1)] ⟨2, [(1, .ty tItem h1_1)]⟩ = laws_toItemS_h1 N a0 v4_1 h1_1 :=
  ((laws_toItemS_l1_run N (blockK 0 (seqK' (fun fr H K => rcode (O_laws_toItemS N) τ_laws_toItemS N fin_laws_toItemS c_laws_toItemS_2 fr H K) (finK R_laws_toItemS [.t 2]))) a0 N v4_1 h1_1)).trans (congrArg (fun h => laws_toItemS_l1 h N a0 N v4_1 h1_1) (funext fun eh1_1 => laws_toItemS_x1_0_run N eh1_1))
def F_laws_toItemSR (N : Nat) (laws_toItemS_h1 : List DItem → Int → List DItem → Option (List DItem)) (a0 : List DItem) : Option (List DItem) :=
  chk (mkOk 24 ((a0.length) : Int)) <|
  laws_toItemS_h1 a0 (0 : Int) (List.replicate (((a0.length) : Int).toNat) dItem)
def F_laws_toItemS (N : Nat) (a0 : List DItem) : Option (List DItem) := F_laws_toItemSR N (laws_toItemS_h1 N) a0
theorem F_laws_toItemS_raw (N : Nat) (a0 : List DItem) :
    runF (O_laws_toItemS N) N B_laws_toItemS R_laws_toItemS (vals T_laws_toItemS a0) = F_laws_toItemSR N (fun a0 v4_1 h1_1 => rloop (fun fr H K => rcode (O_laws_toItemS N) τ_laws_toItemS N fin_laws_toItemS c_laws_toItemS_1 fr H K) [0, 3, 4] [] [3] (blockK 0 (seqK' (fun fr H K => rcode (O_laws_toItemS N) τ_laws_toItemS N fin_laws_toItemS c_laws_toItemS_2 fr H K) (finK R_laws_toItemS [.t 2]))) N [(0, .q tItem a0), (3, .w 1), (4, .n .i64 v4_1)] ⟨2, [(1, .ty tItem h1_1)]⟩) a0 := by kernel_rfl
theorem F_laws_toItemS_run (N : Nat) (a0 : List DItem) :
    runF (O_laws_toItemS N) N B_laws_toItemS R_laws_toItemS (vals T_laws_toItemS a0) = F_laws_toItemS N a0 :=
  (F_laws_toItemS_raw N a0).trans (congrArg (fun h => F_laws_toItemSR N h a0) (funext fun a0 => funext fun v4_1 => funext fun h1_1 => laws_toItemS_h1_run N a0 v4_1 h1_1))
def P_laws_toItemS (N : Nat) (a0 : List DItem) : Bool := (F_laws_toItemS N a0).isSome
def G_laws_toItemS (N : Nat) (a0 : List DItem) : (List DItem) := (F_laws_toItemS N a0).getD []
theorem FG_laws_toItemS {N : Nat} (a0 : List DItem) (h : P_laws_toItemS N a0 = true) : F_laws_toItemS N a0 = some (G_laws_toItemS N a0) := some_of_isSome h
theorem PG_laws_toItemS {N : Nat} {a0 : List DItem} {v : (List DItem)} (h : F_laws_toItemS N a0 = some v) : P_laws_toItemS N a0 = true ∧ G_laws_toItemS N a0 = v := by unfold P_laws_toItemS G_laws_toItemS; rw [h]; exact ⟨rfl, rfl⟩
def o_laws_toItemS (N : Nat) : List V → Bool × V := mkO T_laws_toItemS R_laws_toItemS (fun (x : List DItem) => P_laws_toItemS N x) (fun (x : List DItem) => G_laws_toItemS N x)
theorem laws_toItemS_entry (N : Nat) : Entry Try.prog 74 (o_laws_toItemS N) := Entry.of fun (x : List DItem) h =>
  Pf.of_run hm Try.func74 okFn_laws_toItemS B_laws_toItemS_ok B_laws_toItemS_wf (O_laws_toItemS_ok N) rfl ((F_laws_toItemS_run N x).trans (FG_laws_toItemS x h))
/-! loop.example/g00526/laws.toLetter -/
abbrev T_laws_toLetter : List GT := [tLetter]
abbrev R_laws_toLetter : List GT := [tLetter]
def fin_laws_toLetter : Fr2 → Hp → Option DLetter := finF R_laws_toLetter [.cell 2 9 true]
def O_laws_toLetter (N : Nat) : Orac := orc [(74, o_laws_toItemS N)] []
theorem O_laws_toLetter_ok (N : Nat) : OrcOk Try.prog (O_laws_toLetter N) := OrcOk.of ⟨laws_toItemS_entry N, trivial⟩ trivial
def τ_laws_toLetter : Nat → Option GT := fun _ => none
def B_laws_toLetter : F2 := ⟨33, 1, [.cell 2 9 true], τ_laws_toLetter,
    .seq (.reg .reg [.op (some 1) (.box (.t 0)),
      .op (some 2) (.aloc [.n .i64 0, .n .i64 0, .n .i64 0, .n .i64 0, .n .i64 0, .n .i64 0, .l 0 0 0, .n .i64 0, .b false])])
    (.seq (.reg .reg [.op (some 3) (.aloc [.n .i64 0, .n .i64 0, .n .i64 0, .n .i64 0, .n .i64 0, .n .i64 0, .l 0 0 0, .n .i64 0, .b false])])
    (.seq (.reg .reg [.op (some 4) (.fad 0 (.t 1)),
      .op (some 5) (.load 1 false (.t 4)),
      .op (some 6) (.fad 0 (.t 3)),
      .op none (.stor 1 (.t 6) (.t 5))])
    (.seq (.reg .reg [.op (some 7) (.fad 1 (.t 1)),
      .op (some 8) (.load 1 false (.t 7)),
      .op (some 9) (.fad 1 (.t 3)),
      .op none (.stor 1 (.t 9) (.t 8))])
    (.seq (.reg .reg [.op (some 10) (.fad 2 (.t 1)),
      .op (some 11) (.load 1 false (.t 10)),
      .op (some 12) (.fad 2 (.t 3)),
      .op none (.stor 1 (.t 12) (.t 11))])
    (.seq (.reg .reg [.op (some 13) (.fad 3 (.t 1)),
      .op (some 14) (.load 1 false (.t 13)),
      .op (some 15) (.fad 3 (.t 3)),
      .op none (.stor 1 (.t 15) (.t 14))])
    (.seq (.reg .reg [.op (some 16) (.fad 4 (.t 1)),
      .op (some 17) (.load 1 false (.t 16)),
      .op (some 18) (.fad 4 (.t 3)),
      .op none (.stor 1 (.t 18) (.t 17))])
    (.seq (.reg .reg [.op (some 19) (.fad 5 (.t 1)),
      .op (some 20) (.load 1 false (.t 19)),
      .op (some 21) (.fad 5 (.t 3)),
      .op none (.stor 1 (.t 21) (.t 20))])
    (.seq (.reg .reg [.op (some 22) (.fad 6 (.t 1)),
      .op (some 23) (.load 1 false (.t 22)),
      .op (some 24) (.call (.c (.f 74 [])) [.t 23]),
      .op (some 25) (.fad 6 (.t 3)),
      .op none (.stor 1 (.t 25) (.t 24))])
    (.seq (.reg .reg [.op (some 26) (.fad 7 (.t 1)),
      .op (some 27) (.load 1 false (.t 26)),
      .op (some 28) (.fad 7 (.t 3)),
      .op none (.stor 1 (.t 28) (.t 27))])
    (.seq (.reg .reg [.op (some 29) (.fad 8 (.t 1)),
      .op (some 30) (.load 1 false (.t 29)),
      .op (some 31) (.fad 8 (.t 3)),
      .op none (.stor 1 (.t 31) (.t 30))])
    (.seq (.reg .reg [.op (some 32) (.load 9 true (.t 3)),
      .op none (.stor 9 (.t 2) (.t 32))])
    (.ret))))))))))))⟩
theorem B_laws_toLetter_ok : checkFn Try.prog Try.f30 B_laws_toLetter.toA = true := by kernel_rfl
theorem B_laws_toLetter_wf : B_laws_toLetter.body.wf = true := by kernel_rfl
theorem okFn_laws_toLetter : okFn Try.prog 30 = true := by kernel_rfl
def F_laws_toLetter (N : Nat) (a0 : DLetter) : Option DLetter :=
  let r1 : List DItem := (G_laws_toItemS N a0.2.2.2.2.2.2.1)
  chk (P_laws_toItemS N a0.2.2.2.2.2.2.1) <|
  some (a0.1, a0.2.1, a0.2.2.1, a0.2.2.2.1, a0.2.2.2.2.1, a0.2.2.2.2.2.1, r1, a0.2.2.2.2.2.2.2.1, a0.2.2.2.2.2.2.2.2)
theorem F_laws_toLetter_run (N : Nat) (a0 : DLetter) :
    runF (O_laws_toLetter N) N B_laws_toLetter R_laws_toLetter (vals T_laws_toLetter a0) = F_laws_toLetter N a0 := by kernel_rfl
def P_laws_toLetter (N : Nat) (a0 : DLetter) : Bool := (F_laws_toLetter N a0).isSome
def G_laws_toLetter (N : Nat) (a0 : DLetter) : DLetter := (F_laws_toLetter N a0).getD dLetter
theorem FG_laws_toLetter {N : Nat} (a0 : DLetter) (h : P_laws_toLetter N a0 = true) : F_laws_toLetter N a0 = some (G_laws_toLetter N a0) := some_of_isSome h
theorem PG_laws_toLetter {N : Nat} {a0 : DLetter} {v : DLetter} (h : F_laws_toLetter N a0 = some v) : P_laws_toLetter N a0 = true ∧ G_laws_toLetter N a0 = v := by unfold P_laws_toLetter G_laws_toLetter; rw [h]; exact ⟨rfl, rfl⟩
def o_laws_toLetter (N : Nat) : List V → Bool × V := mkO T_laws_toLetter R_laws_toLetter (fun (x : DLetter) => P_laws_toLetter N x) (fun (x : DLetter) => G_laws_toLetter N x)
theorem laws_toLetter_entry (N : Nat) : Entry Try.prog 30 (o_laws_toLetter N) := Entry.of fun (x : DLetter) h =>
  Pf.of_run hm Try.func30 okFn_laws_toLetter B_laws_toLetter_ok B_laws_toLetter_wf (O_laws_toLetter_ok N) rfl ((F_laws_toLetter_run N x).trans (FG_laws_toLetter x h))
/-! loop.example/g00526/spec.l1In -/
abbrev T_spec_l1In : List GT := [(.i .i64), (.i .i64), (.i .i64)]
abbrev R_spec_l1In : List GT := [.b]
def fin_spec_l1In : Fr2 → Hp → Option Bool := finF R_spec_l1In [.t 6]
def O_spec_l1In (N : Nat) : Orac := orc [] []
theorem O_spec_l1In_ok (N : Nat) : OrcOk Try.prog (O_spec_l1In N) := OrcOk.of trivial trivial
def τ_spec_l1In : Nat → Option GT := fun _ => none
def B_spec_l1In : F2 := ⟨15, 3, [.t 6], τ_spec_l1In,
    .seq (.reg .reg [.op (some 6) (.mov (.c (.b false)))])
    (.seq (.reg .reg [.op (some 7) (.mov (.t 0)),
      .op (some 8) (.mov (.t 1)),
      .op (some 9) (.bin .geq (.t 7) (.t 8)),
      .op (some 10) (.mov (.t 9)),
      .br 10 true [.op (some 11) (.mov (.t 0)), .op (some 12) (.mov (.t 2)), .op (some 13) (.bin .leq (.t 11) (.t 12))] [11, 12, 13] 14 13,
      .op (some 6) (.mov (.t 14))])
    (.ret))⟩
theorem B_spec_l1In_ok : checkFn Try.prog Try.f48 B_spec_l1In.toA = true := by kernel_rfl
theorem B_spec_l1In_wf : B_spec_l1In.body.wf = true := by kernel_rfl
theorem okFn_spec_l1In : okFn Try.prog 48 = true := by kernel_rfl
def F_spec_l1In (N : Nat) (a0 : Int) (a1 : Int) (a2 : Int) : Option Bool :=
  some ((ile a1 a0) && (ile a0 a2))
theorem F_spec_l1In_run (N : Nat) (a0 : Int) (a1 : Int) (a2 : Int) :
    runF (O_spec_l1In N) N B_spec_l1In R_spec_l1In (vals T_spec_l1In (a0, a1, a2)) = F_spec_l1In N a0 a1 a2 := by kernel_rfl
def G_spec_l1In (a0 : Int) (a1 : Int) (a2 : Int) : Bool :=
  ((ile a1 a0) && (ile a0 a2))
theorem FG_spec_l1In (N : Nat) (a0 : Int) (a1 : Int) (a2 : Int) : F_spec_l1In N a0 a1 a2 = some (G_spec_l1In a0 a1 a2) := by
  first | rfl | (simp only [F_spec_l1In, G_spec_l1In, cond_some]; done) | (unfold F_spec_l1In G_spec_l1In; simp only [cond_some]; done)
def o_spec_l1In : List V → Bool × V := mkO T_spec_l1In R_spec_l1In (fun (x : (Int × Int × Int)) => true) (fun (x : (Int × Int × Int)) => G_spec_l1In x.1 x.2.1 x.2.2)
theorem spec_l1In_entry : Entry Try.prog 48 o_spec_l1In := Entry.of fun (x : (Int × Int × Int)) _ =>
  Pf.of_run hm Try.func48 okFn_spec_l1In B_spec_l1In_ok B_spec_l1In_wf (O_spec_l1In_ok 0) rfl ((F_spec_l1In_run 0 x.1 x.2.1 x.2.2).trans (FG_spec_l1In 0 x.1 x.2.1 x.2.2))
/-! loop.example/g00526/spec.l14Plain -/
abbrev T_spec_l14Plain : List GT := [.s, (.i .i64)]
abbrev R_spec_l14Plain : List GT := [.b]
def fin_spec_l14Plain : Fr2 → Hp → Option Bool := finF R_spec_l14Plain [.t 4]
def O_spec_l14Plain (N : Nat) : Orac := orc [] []
theorem O_spec_l14Plain_ok (N : Nat) : OrcOk Try.prog (O_spec_l14Plain N) := OrcOk.of trivial trivial
def c_spec_l14Plain_1 : C2 :=
    .seq (.seq (.reg .reg [.op (some 6) (.mov (.t 5)),
      .op (some 7) (.mov (.t 0)),
      .op (some 8) (.len true (.t 7)),
      .op (some 9) (.bin .lss (.t 6) (.t 8))])
    (.cond (.t 9) (.skip)
    (.exit 0)))
    (.seq (.block 1 (.seq (.reg .reg [.op (some 12) (.mov (.t 0)),
      .op (some 13) (.mov (.t 5)),
      .op (some 14) (.idx (.t 12) (.t 13)),
      .op (some 15) (.bin .eql (.t 14) (.c (.n .u8 10)))])
    (.cond (.t 15) (.seq (.reg .reg [.op (some 4) (.mov (.c (.b false)))])
    (.ret))
    (.skip))))
    (.reg .reg [.op (some 10) (.mov (.t 5)),
      .op (some 11) (.bin .add (.t 10) (.c (.n .i64 1))),
      .op (some 5) (.mov (.t 11))]))
def c_spec_l14Plain_2 : C2 :=
    .seq (.reg .reg [.op (some 16) (.mov (.t 0)),
      .op (some 17) (.len true (.t 16)),
      .op (some 18) (.mov (.t 1)),
      .op (some 19) (.bin .leq (.t 17) (.t 18)),
      .op (some 4) (.mov (.t 19))])
    (.ret)
def τ_spec_l14Plain : Nat → Option GT := fun _ => none
def B_spec_l14Plain : F2 := ⟨20, 2, [.t 4], τ_spec_l14Plain,
    .seq (.reg .reg [.op (some 4) (.mov (.c (.b false)))])
    (.seq (.seq (.reg .reg [.op (some 5) (.mov (.c (.n .i64 0)))])
    (.block 0 (.loop [0, 1, 5] [] [0, 1] c_spec_l14Plain_1)))
    (c_spec_l14Plain_2))⟩
theorem B_spec_l14Plain_ok : checkFn Try.prog Try.f78 B_spec_l14Plain.toA = true := by kernel_rfl
theorem B_spec_l14Plain_wf : B_spec_l14Plain.body.wf = true := by kernel_rfl
theorem okFn_spec_l14Plain : okFn Try.prog 78 = true := by kernel_rfl
def spec_l14Plain_l1s (r0 : Int → Option Bool) (k0_0 : Option Bool) (N : Nat) (a0 : ByteArray) (a1 : Int) (v5_1 : Int) : Option Bool :=
  bif (ilt v5_1 (a0.size : Int)) then
    chk (inb v5_1 a0.size) <|
    bif (ieq ((a0[(v5_1.toNat)]!).toNat : Int) (10 : Int)) then
      some false
    else
      r0 (w64 (v5_1 + (1 : Int)))
  else
    k0_0
theorem spec_l14Plain_l1s_run (N : Nat) (C0 : Fr2 → Hp → Option Bool) (K0 : Option Nat → Fr2 → Hp → Option Bool) (a0 : ByteArray) (a1 : Int) (v5_1 : Int) :
    rcode (O_spec_l14Plain N) τ_spec_l14Plain N fin_spec_l14Plain c_spec_l14Plain_1 [(0, .s a0), (1, .n .i64 a1), (5, .n .i64 v5_1)] ⟨1, []⟩ (roundK [0, 1, 5] [] [0, 1] C0 K0) = spec_l14Plain_l1s (fun v5_1 => C0 [(0, .s a0), (1, .n .i64 a1), (5, .n .i64 v5_1)] ⟨1, []⟩) (K0 (some 0) [(0, .s a0), (1, .n .i64 a1)] ⟨1, []⟩) N a0 a1 v5_1 := by kernel_rfl
def spec_l14Plain_x1_0 (N : Nat) (a0 : ByteArray) (a1 : Int) : Option Bool :=
  some (ile (a0.size : Int) a1)
theorem spec_l14Plain_x1_0_run (N : Nat) (a0 : ByteArray) (a1 : Int) :
    (blockK 0 (seqK' (fun fr H K => rcode (O_spec_l14Plain N) τ_spec_l14Plain N fin_spec_l14Plain c_spec_l14Plain_2 fr H K) (finK R_spec_l14Plain [.t 4]))) (some 0) [(0, .s a0), (1, .n .i64 a1)] ⟨1, []⟩ = spec_l14Plain_x1_0 N a0 a1 := by kernel_rfl
def spec_l14Plain_l1 (k0_0 : Option Bool) (N : Nat) (a0 : ByteArray) (a1 : Int) : Nat → Int → Option Bool
  | 0, _ => none
  | n + 1, v5_1 => spec_l14Plain_l1s (spec_l14Plain_l1 k0_0 N a0 a1 n) k0_0 N a0 a1 v5_1
def spec_l14Plain_h1 (N : Nat) (a0 : ByteArray) (a1 : Int) (v5_1 : Int) : Option Bool :=
  spec_l14Plain_l1 (spec_l14Plain_x1_0 N a0 a1) N a0 a1 N v5_1
theorem spec_l14Plain_l1_run (N : Nat)  (K : Option Nat → Fr2 → Hp → Option Bool) (a0 : ByteArray) (a1 : Int) : ∀ (n : Nat) (v5_1 : Int),
    rloop (fun fr H K => rcode (O_spec_l14Plain N) τ_spec_l14Plain N fin_spec_l14Plain c_spec_l14Plain_1 fr H K) [0, 1, 5] [] [0, 1] K n [(0, .s a0), (1, .n .i64 a1), (5, .n .i64 v5_1)] ⟨1, []⟩ = spec_l14Plain_l1 (K (some 0) [(0, .s a0), (1, .n .i64 a1)] ⟨1, []⟩) N a0 a1 n v5_1 := by
  intro n
  induction n with
  | zero => intro v5_1; kernel_rfl
  | succ n ih => intro v5_1; exact (spec_l14Plain_l1s_run N (rloop (fun fr H K => rcode (O_spec_l14Plain N) τ_spec_l14Plain N fin_spec_l14Plain c_spec_l14Plain_1 fr H K) [0, 1, 5] [] [0, 1] K n) K a0 a1 v5_1).trans (congrArg (fun r => spec_l14Plain_l1s r (K (some 0) [(0, .s a0), (1, .n .i64 a1)] ⟨1, []⟩) N a0 a1 v5_1) (funext fun v5_1 => ih v5_1))
theorem spec_l14Plain_h1_run (N : Nat) (a0 : ByteArray) (a1 : Int) (v5_1 : Int) : rloop (fun fr H K => rcode (O_spec_l14Plain N) τ_spec_l14Plain N fin_spec_l14Plain c_spec_l14Plain_1 fr H K) [0, 1, 5] [] [0, 1] (blockK 0 (seqK' (fun fr H K => rcode (O_spec_l14Plain N) τ_spec_l14Plain N fin_spec_l14Plain c_spec_l14Plain_2 fr H K) (finK R_spec_l14Plain [.t 4]))) N [(0, .s a0), (1, .n .i64 a1), (5, .n .i64 v5_1)] ⟨1, []⟩ = spec_l14Plain_h1 N a0 a1 v5_1 :=
  ((spec_l14Plain_l1_run N (blockK 0 (seqK' (fun fr H K => rcode (O_spec_l14Plain N) τ_spec_l14Plain N fin_spec_l14Plain c_spec_l14Plain_2 fr H K) (finK R_spec_l14Plain [.t 4]))) a0 a1 N v5_1)).trans (congrArg (fun h => spec_l14Plain_l1 h N a0 a1 N v5_1) (spec_l14Plain_x1_0_run N a0 a1))
def F_spec_l14PlainR (N : Nat) (spec_l14Plain_h1 : ByteArray → Int → Int → Option Bool) (a0 : ByteArray) (a1 : Int) : Option Bool :=
  spec_l14Plain_h1 a0 a1 (0 : Int)
def F_spec_l14Plain (N : Nat) (a0 : ByteArray) (a1 : Int) : Option Bool := F_spec_l14PlainR N (spec_l14Plain_h1 N) a0 a1
theorem F_spec_l14Plain_raw (N : Nat) (a0 : ByteArray) (a1 : Int) :
    runF (O_spec_l14Plain N) N B_spec_l14Plain R_spec_l14Plain (vals T_spec_l14Plain (a0, a1)) = F_spec_l14PlainR N (fun a0 a1 v5_1 => rloop (fun fr H K => rcode (O_spec_l14Plain N) τ_spec_l14Plain N fin_spec_l14Plain c_spec_l14Plain_1 fr H K) [0, 1, 5] [] [0, 1] (blockK 0 (seqK' (fun fr H K => rcode (O_spec_l14Plain N) τ_spec_l14Plain N fin_spec_l14Plain c_spec_l14Plain_2 fr H K) (finK R_spec_l14Plain [.t 4]))) N [(0, .s a0), (1, .n .i64 a1), (5, .n .i64 v5_1)] ⟨1, []⟩) a0 a1 := by kernel_rfl
theorem F_spec_l14Plain_run (N : Nat) (a0 : ByteArray) (a1 : Int) :
    runF (O_spec_l14Plain N) N B_spec_l14Plain R_spec_l14Plain (vals T_spec_l14Plain (a0, a1)) = F_spec_l14Plain N a0 a1 :=
  (F_spec_l14Plain_raw N a0 a1).trans (congrArg (fun h => F_spec_l14PlainR N h a0 a1) (funext fun a0 => funext fun a1 => funext fun v5_1 => spec_l14Plain_h1_run N a0 a1 v5_1))
def P_spec_l14Plain (N : Nat) (a0 : ByteArray) (a1 : Int) : Bool := (F_spec_l14Plain N a0 a1).isSome
def G_spec_l14Plain (N : Nat) (a0 : ByteArray) (a1 : Int) : Bool := (F_spec_l14Plain N a0 a1).getD false
theorem FG_spec_l14Plain {N : Nat} (a0 : ByteArray) (a1 : Int) (h : P_spec_l14Plain N a0 a1 = true) : F_spec_l14Plain N a0 a1 = some (G_spec_l14Plain N a0 a1) := some_of_isSome h
theorem PG_spec_l14Plain {N : Nat} {a0 : ByteArray} {a1 : Int} {v : Bool} (h : F_spec_l14Plain N a0 a1 = some v) : P_spec_l14Plain N a0 a1 = true ∧ G_spec_l14Plain N a0 a1 = v := by unfold P_spec_l14Plain G_spec_l14Plain; rw [h]; exact ⟨rfl, rfl⟩
def o_spec_l14Plain (N : Nat) : List V → Bool × V := mkO T_spec_l14Plain R_spec_l14Plain (fun (x : (ByteArray × Int)) => P_spec_l14Plain N x.1 x.2) (fun (x : (ByteArray × Int)) => G_spec_l14Plain N x.1 x.2)
theorem spec_l14Plain_entry (N : Nat) : Entry Try.prog 78 (o_spec_l14Plain N) := Entry.of fun (x : (ByteArray × Int)) h =>
  Pf.of_run hm Try.func78 okFn_spec_l14Plain B_spec_l14Plain_ok B_spec_l14Plain_wf (O_spec_l14Plain_ok N) rfl ((F_spec_l14Plain_run N x.1 x.2).trans (FG_spec_l14Plain x.1 x.2 h))
/-! loop.example/g00526/spec.l16Item -/
abbrev T_spec_l16Item : List GT := [tItem]
abbrev R_spec_l16Item : List GT := [.b]
def fin_spec_l16Item : Fr2 → Hp → Option Bool := finF R_spec_l16Item [.t 2]
def O_spec_l16Item (N : Nat) : Orac := orc [(48, o_spec_l1In), (78, o_spec_l14Plain N)] []
theorem O_spec_l16Item_ok (N : Nat) : OrcOk Try.prog (O_spec_l16Item N) := OrcOk.of ⟨spec_l1In_entry, spec_l14Plain_entry N, trivial⟩ trivial
def τ_spec_l16Item : Nat → Option GT := fun _ => none
def B_spec_l16Item : F2 := ⟨11, 1, [.t 2], τ_spec_l16Item,
    .seq (.reg .reg [.op (some 1) (.box (.t 0)),
      .op (some 2) (.mov (.c (.b false)))])
    (.seq (.reg .reg [.op (some 3) (.fad 0 (.t 1)),
      .op (some 4) (.load 1 false (.t 3)),
      .op (some 5) (.call (.c (.f 48 [])) [.t 4, .c (.n .i64 1), .c (.n .i64 1000)]),
      .op (some 6) (.mov (.t 5)),
      .br 6 true [.op (some 7) (.fad 1 (.t 1)), .op (some 8) (.load 1 false (.t 7)), .op (some 9) (.call (.c (.f 78 [])) [.t 8, .c (.n .i64 300)])] [7, 8, 9] 10 9,
      .op (some 2) (.mov (.t 10))])
    (.ret))⟩
theorem B_spec_l16Item_ok : checkFn Try.prog Try.f73 B_spec_l16Item.toA = true := by kernel_rfl
theorem B_spec_l16Item_wf : B_spec_l16Item.body.wf = true := by kernel_rfl
theorem okFn_spec_l16Item : okFn Try.prog 73 = true := by kernel_rfl
def F_spec_l16Item (N : Nat) (a0 : DItem) : Option Bool :=
  chk ((P_spec_l14Plain N a0.2 (300 : Int)) || (!(G_spec_l1In a0.1 (1 : Int) (1000 : Int)))) <|
  some ((G_spec_l1In a0.1 (1 : Int) (1000 : Int)) && (G_spec_l14Plain N a0.2 (300 : Int)))
theorem F_spec_l16Item_run (N : Nat) (a0 : DItem) :
    runF (O_spec_l16Item N) N B_spec_l16Item R_spec_l16Item (vals T_spec_l16Item a0) = F_spec_l16Item N a0 := by kernel_rfl
def P_spec_l16Item (N : Nat) (a0 : DItem) : Bool := (F_spec_l16Item N a0).isSome
def G_spec_l16Item (N : Nat) (a0 : DItem) : Bool := (F_spec_l16Item N a0).getD false
theorem FG_spec_l16Item {N : Nat} (a0 : DItem) (h : P_spec_l16Item N a0 = true) : F_spec_l16Item N a0 = some (G_spec_l16Item N a0) := some_of_isSome h
theorem PG_spec_l16Item {N : Nat} {a0 : DItem} {v : Bool} (h : F_spec_l16Item N a0 = some v) : P_spec_l16Item N a0 = true ∧ G_spec_l16Item N a0 = v := by unfold P_spec_l16Item G_spec_l16Item; rw [h]; exact ⟨rfl, rfl⟩
def o_spec_l16Item (N : Nat) : List V → Bool × V := mkO T_spec_l16Item R_spec_l16Item (fun (x : DItem) => P_spec_l16Item N x) (fun (x : DItem) => G_spec_l16Item N x)
theorem spec_l16Item_entry (N : Nat) : Entry Try.prog 73 (o_spec_l16Item N) := Entry.of fun (x : DItem) h =>
  Pf.of_run hm Try.func73 okFn_spec_l16Item B_spec_l16Item_ok B_spec_l16Item_wf (O_spec_l16Item_ok N) rfl ((F_spec_l16Item_run N x).trans (FG_spec_l16Item x h))
/-! loop.example/g00526/spec.LetterOk -/
abbrev T_spec_LetterOk : List GT := [tLetter]
abbrev R_spec_LetterOk : List GT := [.b]
def fin_spec_LetterOk : Fr2 → Hp → Option Bool := finF R_spec_LetterOk [.t 2]
def O_spec_LetterOk (N : Nat) : Orac := orc [(48, o_spec_l1In), (73, o_spec_l16Item N)] []
theorem O_spec_LetterOk_ok (N : Nat) : OrcOk Try.prog (O_spec_LetterOk N) := OrcOk.of ⟨spec_l1In_entry, spec_l16Item_entry N, trivial⟩ trivial
def c_spec_LetterOk_1 : C2 :=
    .seq (.seq (.reg .reg [.op (some 51) (.mov (.t 3)),
      .op (some 52) (.fad 6 (.t 1)),
      .op (some 53) (.load 1 false (.t 52)),
      .op (some 54) (.len false (.t 53)),
      .op (some 55) (.bin .lss (.t 51) (.t 54))])
    (.cond (.t 55) (.skip)
    (.exit 0)))
    (.seq (.block 1 (.seq (.reg .reg [.op (some 58) (.fad 6 (.t 1)),
      .op (some 59) (.load 1 false (.t 58)),
      .op (some 60) (.mov (.t 3)),
      .op (some 61) (.iad 2 (.t 59) (.t 60)),
      .op (some 62) (.load 2 true (.t 61)),
      .op (some 63) (.call (.c (.f 73 [])) [.t 62]),
      .op (some 64) (.un .not (.t 63))])
    (.cond (.t 64) (.seq (.reg .reg [.op (some 2) (.mov (.c (.b false)))])
    (.ret))
    (.skip))))
    (.reg .reg [.op (some 56) (.mov (.t 3)),
      .op (some 57) (.bin .add (.t 56) (.c (.n .i64 1))),
      .op (some 3) (.mov (.t 57))]))
def c_spec_LetterOk_2 : C2 :=
    .seq (.seq (.reg .reg [.op (some 65) (.fad 0 (.t 1)),
      .op (some 66) (.load 1 false (.t 65))])
    (.block 2 (.seq (.reg .reg [.op (some 68) (.bin .eql (.t 66) (.c (.n .i64 1))),
      .op (some 67) (.mov (.t 68))])
    (.cond (.t 67) (.seq (.reg .reg [.op (some 69) (.fad 6 (.t 1)),
      .op (some 70) (.load 1 false (.t 69)),
      .op (some 71) (.len false (.t 70)),
      .op (some 72) (.bin .eql (.t 71) (.c (.n .i64 0))),
      .op (some 73) (.mov (.t 72)),
      .br 73 true [.op (some 74) (.fad 7 (.t 1)), .op (some 75) (.load 1 false (.t 74)), .op (some 76) (.bin .eql (.t 75) (.c (.n .i64 0)))] [74, 75, 76] 77 76,
      .op (some 78) (.mov (.t 77)),
      .br 78 true [.op (some 79) (.fad 8 (.t 1)), .op (some 80) (.load 1 false (.t 79)), .op (some 81) (.un .not (.t 80))] [79, 80, 81] 82 81,
      .op (some 2) (.mov (.t 82))])
    (.ret))
    (.seq (.reg .reg [.op (some 84) (.bin .eql (.t 66) (.c (.n .i64 2))),
      .op (some 83) (.mov (.t 84))])
    (.cond (.t 83) (.seq (.reg .reg [.op (some 85) (.fad 6 (.t 1)),
      .op (some 86) (.load 1 false (.t 85)),
      .op (some 87) (.len false (.t 86)),
      .op (some 88) (.bin .eql (.t 87) (.c (.n .i64 0))),
      .op (some 89) (.mov (.t 88)),
      .br 89 true [.op (some 90) (.fad 7 (.t 1)), .op (some 91) (.load 1 false (.t 90)), .op (some 92) (.bin .eql (.t 91) (.c (.n .i64 0)))] [90, 91, 92] 93 92,
      .op (some 94) (.mov (.t 93)),
      .br 94 true [.op (some 95) (.fad 4 (.t 1)), .op (some 96) (.load 1 false (.t 95)), .op (some 97) (.bin .eql (.t 96) (.c (.n .i64 0)))] [95, 96, 97] 98 97,
      .op (some 99) (.mov (.t 98)),
      .br 99 true [.op (some 100) (.fad 5 (.t 1)), .op (some 101) (.load 1 false (.t 100)), .op (some 102) (.bin .eql (.t 101) (.c (.n .i64 0)))] [100, 101, 102] 103 102,
      .op (some 2) (.mov (.t 103))])
    (.ret))
    (.seq (.reg .reg [.op (some 105) (.bin .eql (.t 66) (.c (.n .i64 3))),
      .op (some 104) (.mov (.t 105))])
    (.cond (.t 104) (.seq (.reg .reg [.op (some 106) (.fad 8 (.t 1)),
      .op (some 107) (.load 1 false (.t 106)),
      .op (some 108) (.un .not (.t 107)),
      .op (some 2) (.mov (.t 108))])
    (.ret))
    (.seq (.reg .reg [.op (some 110) (.bin .eql (.t 66) (.c (.n .i64 4))),
      .op (some 109) (.mov (.t 110))])
    (.cond (.t 109) (.seq (.reg .reg [.op (some 111) (.fad 6 (.t 1)),
      .op (some 112) (.load 1 false (.t 111)),
      .op (some 113) (.len false (.t 112)),
      .op (some 114) (.bin .eql (.t 113) (.c (.n .i64 0))),
      .op (some 115) (.mov (.t 114)),
      .br 115 true [.op (some 116) (.fad 7 (.t 1)), .op (some 117) (.load 1 false (.t 116)), .op (some 118) (.bin .eql (.t 117) (.c (.n .i64 0)))] [116, 117, 118] 119 118,
      .op (some 120) (.mov (.t 119)),
      .br 120 true [.op (some 121) (.fad 5 (.t 1)), .op (some 122) (.load 1 false (.t 121)), .op (some 123) (.bin .eql (.t 122) (.c (.n .i64 0)))] [121, 122, 123] 124 123,
      .op (some 2) (.mov (.t 124))])
    (.ret))
    (.skip)))))))))))
    (.seq (.reg .reg [.op (some 2) (.mov (.c (.b false)))])
    (.ret))
def τ_spec_LetterOk : Nat → Option GT := fun _ => none
def B_spec_LetterOk : F2 := ⟨125, 1, [.t 2], τ_spec_LetterOk,
    .seq (.reg .reg [.op (some 1) (.box (.t 0)),
      .op (some 2) (.mov (.c (.b false)))])
    (.seq (.seq (.reg .reg [.op (some 4) (.fad 1 (.t 1)),
      .op (some 5) (.load 1 false (.t 4)),
      .op (some 6) (.call (.c (.f 48 [])) [.t 5, .c (.n .i64 0), .c (.n .i64 2)]),
      .op (some 7) (.un .not (.t 6)),
      .op (some 8) (.mov (.t 7)),
      .br 8 false [.op (some 9) (.fad 2 (.t 1)), .op (some 10) (.load 1 false (.t 9)), .op (some 11) (.call (.c (.f 48 [])) [.t 10, .c (.n .i64 0), .c (.n .i64 2)]), .op (some 12) (.un .not (.t 11))] [9, 10, 11, 12] 13 12,
      .op (some 14) (.mov (.t 13)),
      .br 14 false [.op (some 15) (.fad 1 (.t 1)), .op (some 16) (.load 1 false (.t 15)), .op (some 17) (.fad 2 (.t 1)), .op (some 18) (.load 1 false (.t 17)), .op (some 19) (.bin .eql (.t 16) (.t 18))] [15, 16, 17, 18, 19] 20 19,
      .op (some 21) (.mov (.t 20)),
      .br 21 false [.op (some 22) (.fad 3 (.t 1)), .op (some 23) (.load 1 false (.t 22)), .op (some 24) (.call (.c (.f 48 [])) [.t 23, .c (.n .i64 1), .c (.n .i64 1000)]), .op (some 25) (.un .not (.t 24))] [22, 23, 24, 25] 26 25,
      .op (some 27) (.mov (.t 26)),
      .br 27 false [.op (some 28) (.fad 4 (.t 1)), .op (some 29) (.load 1 false (.t 28)), .op (some 30) (.call (.c (.f 48 [])) [.t 29, .c (.n .i64 0), .c (.n .i64 40)]), .op (some 31) (.un .not (.t 30))] [28, 29, 30, 31] 32 31,
      .op (some 33) (.mov (.t 32)),
      .br 33 false [.op (some 34) (.fad 5 (.t 1)), .op (some 35) (.load 1 false (.t 34)), .op (some 36) (.call (.c (.f 48 [])) [.t 35, .c (.n .i64 0), .c (.n .i64 1000)]), .op (some 37) (.un .not (.t 36))] [34, 35, 36, 37] 38 37,
      .op (some 39) (.mov (.t 38)),
      .br 39 false [.op (some 40) (.fad 7 (.t 1)), .op (some 41) (.load 1 false (.t 40)), .op (some 42) (.call (.c (.f 48 [])) [.t 41, .c (.n .i64 0), .c (.n .i64 40)]), .op (some 43) (.un .not (.t 42))] [40, 41, 42, 43] 44 43,
      .op (some 45) (.mov (.t 44)),
      .br 45 false [.op (some 46) (.fad 6 (.t 1)), .op (some 47) (.load 1 false (.t 46)), .op (some 48) (.len false (.t 47)), .op (some 49) (.bin .gtr (.t 48) (.c (.n .i64 4)))] [46, 47, 48, 49] 50 49])
    (.cond (.t 50) (.seq (.reg .reg [.op (some 2) (.mov (.c (.b false)))])
    (.ret))
    (.skip)))
    (.seq (.seq (.reg .reg [.op (some 3) (.mov (.c (.n .i64 0)))])
    (.block 0 (.loop [1, 3] [] [1] c_spec_LetterOk_1)))
    (c_spec_LetterOk_2)))⟩
theorem B_spec_LetterOk_ok : checkFn Try.prog Try.f29 B_spec_LetterOk.toA = true := by kernel_rfl
theorem B_spec_LetterOk_wf : B_spec_LetterOk.body.wf = true := by kernel_rfl
theorem okFn_spec_LetterOk : okFn Try.prog 29 = true := by kernel_rfl
def spec_LetterOk_l1s (r0 : Int → Option Bool) (k0_0 : Option Bool) (N : Nat) (v3_1 : Int) (pb1_1 : Int) (pb1_1_2 : Int) (pb1_1_3 : Int) (pb1_1_4 : Int) (pb1_1_5 : Int) (pb1_1_6 : Int) (pb1_1_7 : List DItem) (pb1_1_8 : Int) (pb1_1_9 : Bool) : Option Bool :=
  bif (ilt v3_1 ((pb1_1_7.length) : Int)) then
    let x1 : DItem := (pb1_1_7.getD (v3_1.toNat) dItem)
    chk (inb v3_1 (pb1_1_7.length)) <|
    chk (P_spec_l16Item N x1) <|
    bif (!(G_spec_l16Item N x1)) then
      some false
    else
      r0 (w64 (v3_1 + (1 : Int)))
  else
    k0_0
theorem spec_LetterOk_l1s_run (N : Nat) (C0 : Fr2 → Hp → Option Bool) (K0 : Option Nat → Fr2 → Hp → Option Bool) (v3_1 : Int) (pb1_1 : Int) (pb1_1_2 : Int) (pb1_1_3 : Int) (pb1_1_4 : Int) (pb1_1_5 : Int) (pb1_1_6 : Int) (pb1_1_7 : List DItem) (pb1_1_8 : Int) (pb1_1_9 : Bool) :
    rcode (O_spec_LetterOk N) τ_spec_LetterOk N fin_spec_LetterOk c_spec_LetterOk_1 [(1, .p 1 0 0), (3, .n .i64 v3_1)] ⟨2, [(1, .un 9 [[.n .i64 pb1_1, .n .i64 pb1_1_2, .n .i64 pb1_1_3, .n .i64 pb1_1_4, .n .i64 pb1_1_5, .n .i64 pb1_1_6, .q tItem pb1_1_7, .n .i64 pb1_1_8, .b pb1_1_9]])]⟩ (roundK [1, 3] [] [1] C0 K0) = spec_LetterOk_l1s (fun v3_1 => C0 [(1, .p 1 0 0), (3, .n .i64 v3_1)] ⟨2, [(1, .un 9 [[.n .i64 pb1_1, .n .i64 pb1_1_2, .n .i64 pb1_1_3, .n .i64 pb1_1_4, .n .i64 pb1_1_5, .n .i64 pb1_1_6, .q tItem pb1_1_7, .n .i64 pb1_1_8, .b pb1_1_9]])]⟩) (K0 (some 0) [(1, .p 1 0 0)] ⟨2, [(1, .un 9 [[.n .i64 pb1_1, .n .i64 pb1_1_2, .n .i64 pb1_1_3, .n .i64 pb1_1_4, .n .i64 pb1_1_5, .n .i64 pb1_1_6, .q tItem pb1_1_7, .n .i64 pb1_1_8, .b pb1_1_9]])]⟩) N v3_1 pb1_1 pb1_1_2 pb1_1_3 pb1_1_4 pb1_1_5 pb1_1_6 pb1_1_7 pb1_1_8 pb1_1_9 := by kernel_rfl
def spec_LetterOk_x1_0 (N : Nat) (pb1_1 : Int) (pb1_1_2 : Int) (pb1_1_3 : Int) (pb1_1_4 : Int) (pb1_1_5 : Int) (pb1_1_6 : Int) (pb1_1_7 : List DItem) (pb1_1_8 : Int) (pb1_1_9 : Bool) : Option Bool :=
  bif (ieq pb1_1 (1 : Int)) then
    some (((ieq ((pb1_1_7.length) : Int) (0 : Int)) && (ieq pb1_1_8 (0 : Int))) && (!pb1_1_9))
  else
    bif (ieq pb1_1 (2 : Int)) then
      some ((((ieq ((pb1_1_7.length) : Int) (0 : Int)) && (ieq pb1_1_8 (0 : Int))) && (ieq pb1_1_5 (0 : Int))) && (ieq pb1_1_6 (0 : Int)))
    else
      bif (ieq pb1_1 (3 : Int)) then
        some (!pb1_1_9)
      else
        bif (ieq pb1_1 (4 : Int)) then
          some (((ieq ((pb1_1_7.length) : Int) (0 : Int)) && (ieq pb1_1_8 (0 : Int))) && (ieq pb1_1_6 (0 : Int)))
        else
          some false
theorem spec_LetterOk_x1_0_run (N : Nat) (pb1_1 : Int) (pb1_1_2 : Int) (pb1_1_3 : Int) (pb1_1_4 : Int) (pb1_1_5 : Int) (pb1_1_6 : Int) (pb1_1_7 : List DItem) (pb1_1_8 : Int) (pb1_1_9 : Bool) :
    (blockK 0 (seqK' (fun fr H K => rcode (O_spec_LetterOk N) τ_spec_LetterOk N fin_spec_LetterOk c_spec_LetterOk_2 fr H K) (finK R_spec_LetterOk [.t 2]))) (some 0) [(1, .p 1 0 0)] ⟨2, [(1, .un 9 [[.n .i64 pb1_1, .n .i64 pb1_1_2, .n .i64 pb1_1_3, .n .i64 pb1_1_4, .n .i64 pb1_1_5, .n .i64 pb1_1_6, .q tItem pb1_1_7, .n .i64 pb1_1_8, .b pb1_1_9]])]⟩ = spec_LetterOk_x1_0 N pb1_1 pb1_1_2 pb1_1_3 pb1_1_4 pb1_1_5 pb1_1_6 pb1_1_7 pb1_1_8 pb1_1_9 := by kernel_rfl
def spec_LetterOk_l1 (k0_0 : Option Bool) (N : Nat) (pb1_1 : Int) (pb1_1_2 : Int) (pb1_1_3 : Int) (pb1_1_4 : Int) (pb1_1_5 : Int) (pb1_1_6 : Int) (pb1_1_7 : List DItem) (pb1_1_8 : Int) (pb1_1_9 : Bool) : Nat → Int → Option Bool
  | 0, _ => none
  | n + 1, v3_1 => spec_LetterOk_l1s (spec_LetterOk_l1 k0_0 N pb1_1 pb1_1_2 pb1_1_3 pb1_1_4 pb1_1_5 pb1_1_6 pb1_1_7 pb1_1_8 pb1_1_9 n) k0_0 N v3_1 pb1_1 pb1_1_2 pb1_1_3 pb1_1_4 pb1_1_5 pb1_1_6 pb1_1_7 pb1_1_8 pb1_1_9
def spec_LetterOk_h1 (N : Nat) (v3_1 : Int) (pb1_1 : Int) (pb1_1_2 : Int) (pb1_1_3 : Int) (pb1_1_4 : Int) (pb1_1_5 : Int) (pb1_1_6 : Int) (pb1_1_7 : List DItem) (pb1_1_8 : Int) (pb1_1_9 : Bool) : Option Bool :=
  spec_LetterOk_l1 (spec_LetterOk_x1_0 N pb1_1 pb1_1_2 pb1_1_3 pb1_1_4 pb1_1_5 pb1_1_6 pb1_1_7 pb1_1_8 pb1_1_9) N pb1_1 pb1_1_2 pb1_1_3 pb1_1_4 pb1_1_5 pb1_1_6 pb1_1_7 pb1_1_8 pb1_1_9 N v3_1
theorem spec_LetterOk_l1_run (N : Nat)  (K : Option Nat → Fr2 → Hp → Option Bool) (pb1_1 : Int) (pb1_1_2 : Int) (pb1_1_3 : Int) (pb1_1_4 : Int) (pb1_1_5 : Int) (pb1_1_6 : Int) (pb1_1_7 : List DItem) (pb1_1_8 : Int) (pb1_1_9 : Bool) : ∀ (n : Nat) (v3_1 : Int),
    rloop (fun fr H K => rcode (O_spec_LetterOk N) τ_spec_LetterOk N fin_spec_LetterOk c_spec_LetterOk_1 fr H K) [1, 3] [] [1] K n [(1, .p 1 0 0), (3, .n .i64 v3_1)] ⟨2, [(1, .un 9 [[.n .i64 pb1_1, .n .i64 pb1_1_2, .n .i64 pb1_1_3, .n .i64 pb1_1_4, .n .i64 pb1_1_5, .n .i64 pb1_1_6, .q tItem pb1_1_7, .n .i64 pb1_1_8, .b pb1_1_9]])]⟩ = spec_LetterOk_l1 (K (some 0) [(1, .p 1 0 0)] ⟨2, [(1, .un 9 [[.n .i64 pb1_1, .n .i64 pb1_1_2, .n .i64 pb1_1_3, .n .i64 pb1_1_4, .n .i64 pb1_1_5, .n .i64 pb1_1_6, .q tItem pb1_1_7, .n .i64 pb1_1_8, .b pb1_1_9]])]⟩) N pb1_1 pb1_1_2 pb1_1_3 pb1_1_4 pb1_1_5 pb1_1_6 pb1_1_7 pb1_1_8 pb1_1_9 n v3_1 := by
  intro n
  induction n with
  | zero => intro v3_1; kernel_rfl
  | succ n ih => intro v3_1; exact (spec_LetterOk_l1s_run N (rloop (fun fr H K => rcode (O_spec_LetterOk N) τ_spec_LetterOk N fin_spec_LetterOk c_spec_LetterOk_1 fr H K) [1, 3] [] [1] K n) K v3_1 pb1_1 pb1_1_2 pb1_1_3 pb1_1_4 pb1_1_5 pb1_1_6 pb1_1_7 pb1_1_8 pb1_1_9).trans (congrArg (fun r => spec_LetterOk_l1s r (K (some 0) [(1, .p 1 0 0)] ⟨2, [(1, .un 9 [[.n .i64 pb1_1, .n .i64 pb1_1_2, .n .i64 pb1_1_3, .n .i64 pb1_1_4, .n .i64 pb1_1_5, .n .i64 pb1_1_6, .q tItem pb1_1_7, .n .i64 pb1_1_8, .b pb1_1_9]])]⟩) N v3_1 pb1_1 pb1_1_2 pb1_1_3 pb1_1_4 pb1_1_5 pb1_1_6 pb1_1_7 pb1_1_8 pb1_1_9) (funext fun v3_1 => ih v3_1))
theorem spec_LetterOk_h1_run (N : Nat) (v3_1 : Int) (pb1_1 : Int) (pb1_1_2 : Int) (pb1_1_3 : Int) (pb1_1_4 : Int) (pb1_1_5 : Int) (pb1_1_6 : Int) (pb1_1_7 : List DItem) (pb1_1_8 : Int) (pb1_1_9 : Bool) : rloop (fun fr H K => rcode (O_spec_LetterOk N) τ_spec_LetterOk N fin_spec_LetterOk c_spec_LetterOk_1 fr H K) [1, 3] [] [1] (blockK 0 (seqK' (fun fr H K => rcode (O_spec_LetterOk N) τ_spec_LetterOk N fin_spec_LetterOk c_spec_LetterOk_2 fr H K) (finK R_spec_LetterOk [.t 2]))) N [(1, .p 1 0 0), (3, .n .i64 v3_1)] ⟨2, [(1, .un 9 [[.n .i64 pb1_1, .n .i64 pb1_1_2, .n .i64 pb1_1_3, .n .i64 pb1_1_4, .n .i64 pb1_1_5, .n .i64 pb1_1_6, .q tItem pb1_1_7, .n .i64 pb1_1_8, .b pb1_1_9]])]⟩ = spec_LetterOk_h1 N v3_1 pb1_1 pb1_1_2 pb1_1_3 pb1_1_4 pb1_1_5 pb1_1_6 pb1_1_7 pb1_1_8 pb1_1_9 :=
  ((spec_LetterOk_l1_run N (blockK 0 (seqK' (fun fr H K => rcode (O_spec_LetterOk N) τ_spec_LetterOk N fin_spec_LetterOk c_spec_LetterOk_2 fr H K) (finK R_spec_LetterOk [.t 2]))) pb1_1 pb1_1_2 pb1_1_3 pb1_1_4 pb1_1_5 pb1_1_6 pb1_1_7 pb1_1_8 pb1_1_9 N v3_1)).trans (congrArg (fun h => spec_LetterOk_l1 h N pb1_1 pb1_1_2 pb1_1_3 pb1_1_4 pb1_1_5 pb1_1_6 pb1_1_7 pb1_1_8 pb1_1_9 N v3_1) (spec_LetterOk_x1_0_run N pb1_1 pb1_1_2 pb1_1_3 pb1_1_4 pb1_1_5 pb1_1_6 pb1_1_7 pb1_1_8 pb1_1_9))
def F_spec_LetterOkR (N : Nat) (spec_LetterOk_h1 : Int → Int → Int → Int → Int → Int → Int → List DItem → Int → Bool → Option Bool) (a0 : DLetter) : Option Bool :=
  bif ((((((((!(G_spec_l1In a0.2.1 (0 : Int) (2 : Int))) || (!(G_spec_l1In a0.2.2.1 (0 : Int) (2 : Int)))) || (ieq a0.2.1 a0.2.2.1)) || (!(G_spec_l1In a0.2.2.2.1 (1 : Int) (1000 : Int)))) || (!(G_spec_l1In a0.2.2.2.2.1 (0 : Int) (40 : Int)))) || (!(G_spec_l1In a0.2.2.2.2.2.1 (0 : Int) (1000 : Int)))) || (!(G_spec_l1In a0.2.2.2.2.2.2.2.1 (0 : Int) (40 : Int)))) || (ilt (4 : Int) ((a0.2.2.2.2.2.2.1.length) : Int))) then
    some false
  else
    spec_LetterOk_h1 (0 : Int) a0.1 a0.2.1 a0.2.2.1 a0.2.2.2.1 a0.2.2.2.2.1 a0.2.2.2.2.2.1 a0.2.2.2.2.2.2.1 a0.2.2.2.2.2.2.2.1 a0.2.2.2.2.2.2.2.2
def F_spec_LetterOk (N : Nat) (a0 : DLetter) : Option Bool := F_spec_LetterOkR N (spec_LetterOk_h1 N) a0
theorem F_spec_LetterOk_raw (N : Nat) (a0 : DLetter) :
    runF (O_spec_LetterOk N) N B_spec_LetterOk R_spec_LetterOk (vals T_spec_LetterOk a0) = F_spec_LetterOkR N (fun v3_1 pb1_1 pb1_1_2 pb1_1_3 pb1_1_4 pb1_1_5 pb1_1_6 pb1_1_7 pb1_1_8 pb1_1_9 => rloop (fun fr H K => rcode (O_spec_LetterOk N) τ_spec_LetterOk N fin_spec_LetterOk c_spec_LetterOk_1 fr H K) [1, 3] [] [1] (blockK 0 (seqK' (fun fr H K => rcode (O_spec_LetterOk N) τ_spec_LetterOk N fin_spec_LetterOk c_spec_LetterOk_2 fr H K) (finK R_spec_LetterOk [.t 2]))) N [(1, .p 1 0 0), (3, .n .i64 v3_1)] ⟨2, [(1, .un 9 [[.n .i64 pb1_1, .n .i64 pb1_1_2, .n .i64 pb1_1_3, .n .i64 pb1_1_4, .n .i64 pb1_1_5, .n .i64 pb1_1_6, .q tItem pb1_1_7, .n .i64 pb1_1_8, .b pb1_1_9]])]⟩) a0 := by kernel_rfl
theorem F_spec_LetterOk_run (N : Nat) (a0 : DLetter) :
    runF (O_spec_LetterOk N) N B_spec_LetterOk R_spec_LetterOk (vals T_spec_LetterOk a0) = F_spec_LetterOk N a0 :=
  (F_spec_LetterOk_raw N a0).trans (congrArg (fun h => F_spec_LetterOkR N h a0) (funext fun v3_1 => funext fun pb1_1 => funext fun pb1_1_2 => funext fun pb1_1_3 => funext fun pb1_1_4 => funext fun pb1_1_5 => funext fun pb1_1_6 => funext fun pb1_1_7 => funext fun pb1_1_8 => funext fun pb1_1_9 => spec_LetterOk_h1_run N v3_1 pb1_1 pb1_1_2 pb1_1_3 pb1_1_4 pb1_1_5 pb1_1_6 pb1_1_7 pb1_1_8 pb1_1_9))
def P_spec_LetterOk (N : Nat) (a0 : DLetter) : Bool := (F_spec_LetterOk N a0).isSome
def G_spec_LetterOk (N : Nat) (a0 : DLetter) : Bool := (F_spec_LetterOk N a0).getD false
theorem FG_spec_LetterOk {N : Nat} (a0 : DLetter) (h : P_spec_LetterOk N a0 = true) : F_spec_LetterOk N a0 = some (G_spec_LetterOk N a0) := some_of_isSome h
theorem PG_spec_LetterOk {N : Nat} {a0 : DLetter} {v : Bool} (h : F_spec_LetterOk N a0 = some v) : P_spec_LetterOk N a0 = true ∧ G_spec_LetterOk N a0 = v := by unfold P_spec_LetterOk G_spec_LetterOk; rw [h]; exact ⟨rfl, rfl⟩
def o_spec_LetterOk (N : Nat) : List V → Bool × V := mkO T_spec_LetterOk R_spec_LetterOk (fun (x : DLetter) => P_spec_LetterOk N x) (fun (x : DLetter) => G_spec_LetterOk N x)
theorem spec_LetterOk_entry (N : Nat) : Entry Try.prog 29 (o_spec_LetterOk N) := Entry.of fun (x : DLetter) h =>
  Pf.of_run hm Try.func29 okFn_spec_LetterOk B_spec_LetterOk_ok B_spec_LetterOk_wf (O_spec_LetterOk_ok N) rfl ((F_spec_LetterOk_run N x).trans (FG_spec_LetterOk x h))
/-! loop.example/g00526/impl.within -/
abbrev T_impl_within : List GT := [(.i .i64), (.i .i64), (.i .i64)]
abbrev R_impl_within : List GT := [.b]
def fin_impl_within : Fr2 → Hp → Option Bool := finF R_impl_within [.t 6]
def O_impl_within (N : Nat) : Orac := orc [] []
theorem O_impl_within_ok (N : Nat) : OrcOk Try.prog (O_impl_within N) := OrcOk.of trivial trivial
def τ_impl_within : Nat → Option GT := fun _ => none
def B_impl_within : F2 := ⟨15, 3, [.t 6], τ_impl_within,
    .seq (.reg .reg [.op (some 6) (.mov (.c (.b false)))])
    (.seq (.reg .reg [.op (some 7) (.mov (.t 0)),
      .op (some 8) (.mov (.t 1)),
      .op (some 9) (.bin .geq (.t 7) (.t 8)),
      .op (some 10) (.mov (.t 9)),
      .br 10 true [.op (some 11) (.mov (.t 0)), .op (some 12) (.mov (.t 2)), .op (some 13) (.bin .leq (.t 11) (.t 12))] [11, 12, 13] 14 13,
      .op (some 6) (.mov (.t 14))])
    (.ret))⟩
theorem B_impl_within_ok : checkFn Try.prog Try.f49 B_impl_within.toA = true := by kernel_rfl
theorem B_impl_within_wf : B_impl_within.body.wf = true := by kernel_rfl
theorem okFn_impl_within : okFn Try.prog 49 = true := by kernel_rfl
def F_impl_within (N : Nat) (a0 : Int) (a1 : Int) (a2 : Int) : Option Bool :=
  some ((ile a1 a0) && (ile a0 a2))
theorem F_impl_within_run (N : Nat) (a0 : Int) (a1 : Int) (a2 : Int) :
    runF (O_impl_within N) N B_impl_within R_impl_within (vals T_impl_within (a0, a1, a2)) = F_impl_within N a0 a1 a2 := by kernel_rfl
def G_impl_within (a0 : Int) (a1 : Int) (a2 : Int) : Bool :=
  ((ile a1 a0) && (ile a0 a2))
theorem FG_impl_within (N : Nat) (a0 : Int) (a1 : Int) (a2 : Int) : F_impl_within N a0 a1 a2 = some (G_impl_within a0 a1 a2) := by
  first | rfl | (simp only [F_impl_within, G_impl_within, cond_some]; done) | (unfold F_impl_within G_impl_within; simp only [cond_some]; done)
def o_impl_within : List V → Bool × V := mkO T_impl_within R_impl_within (fun (x : (Int × Int × Int)) => true) (fun (x : (Int × Int × Int)) => G_impl_within x.1 x.2.1 x.2.2)
theorem impl_within_entry : Entry Try.prog 49 o_impl_within := Entry.of fun (x : (Int × Int × Int)) _ =>
  Pf.of_run hm Try.func49 okFn_impl_within B_impl_within_ok B_impl_within_wf (O_impl_within_ok 0) rfl ((F_impl_within_run 0 x.1 x.2.1 x.2.2).trans (FG_impl_within 0 x.1 x.2.1 x.2.2))
def P_strings_Contains (s t : ByteArray) : Bool := decide (t = ⟨#[t[0]!]⟩)
def hasByte (s : ByteArray) (c : UInt8) : Bool := decide (0 ≤ Lib.indexByte s.data.toList c)
def G_strings_Contains (s t : ByteArray) : Bool := hasByte s (t[0]!)
def o_strings_Contains : List V → Bool × V := mkO [.s, .s] [.b] (fun (x : ByteArray × ByteArray) => P_strings_Contains x.1 x.2) (fun (x : ByteArray × ByteArray) => G_strings_Contains x.1 x.2)
theorem strings_Contains_entry : Entry Try.prog 104 o_strings_Contains := Entry.of fun (x : ByteArray × ByteArray) h => by
  obtain ⟨s, t⟩ := x
  have ht : t = ⟨#[t[0]!]⟩ := of_decide_eq_true h
  exact Pf.of_calls (by kernel_rfl) (cargs := [.string s, .string t]) (v := .bool (hasByte s (t[0]!))) (fun ρ cs h => by
    simp only [valsA, densHd, densTl, cellsA, mkValA, GT.isAgg, VRs, VR] at h
    obtain ⟨_, _, rfl, rfl, _, _, rfl, rfl, rfl⟩ := h
    rfl) (fun ρ => by simp only [encA, valA, cellsA, mkValA, GT.isAgg, VR]; rfl) fun w => by
      have k := Sh.Try.strings_Contains_one s (t[0]!) w
      rw [← ht] at k
      exact k.mono fun e w' ⟨h1, h2⟩ => by subst h2; exact ⟨h1, rfl, rfl, rfl, rfl⟩
/-! loop.example/g00526/impl.isItemText -/
abbrev T_impl_isItemText : List GT := [.s]
abbrev R_impl_isItemText : List GT := [.b]
def fin_impl_isItemText : Fr2 → Hp → Option Bool := finF R_impl_isItemText [.t 2]
def O_impl_isItemText (N : Nat) : Orac := orc [(104, o_strings_Contains)] []
theorem O_impl_isItemText_ok (N : Nat) : OrcOk Try.prog (O_impl_isItemText N) := OrcOk.of ⟨strings_Contains_entry, trivial⟩ trivial
def τ_impl_isItemText : Nat → Option GT := fun _ => none
def B_impl_isItemText : F2 := ⟨11, 1, [.t 2], τ_impl_isItemText,
    .seq (.reg .reg [.op (some 2) (.mov (.c (.b false)))])
    (.seq (.reg .reg [.op (some 3) (.mov (.t 0)),
      .op (some 4) (.len true (.t 3)),
      .op (some 5) (.bin .leq (.t 4) (.c (.n .i64 300))),
      .op (some 6) (.mov (.t 5)),
      .br 6 true [.op (some 7) (.mov (.t 0)), .op (some 8) (.call (.c (.f 104 [])) [.t 7, .c (.s ⟨#[10]⟩)]), .op (some 9) (.un .not (.t 8))] [7, 8, 9] 10 9,
      .op (some 2) (.mov (.t 10))])
    (.ret))⟩
theorem B_impl_isItemText_ok : checkFn Try.prog Try.f125 B_impl_isItemText.toA = true := by kernel_rfl
theorem B_impl_isItemText_wf : B_impl_isItemText.body.wf = true := by kernel_rfl
theorem okFn_impl_isItemText : okFn Try.prog 125 = true := by kernel_rfl
def F_impl_isItemText (N : Nat) (a0 : ByteArray) : Option Bool :=
  chk ((P_strings_Contains a0 (⟨#[10]⟩ : ByteArray)) || (!(ile (a0.size : Int) (300 : Int)))) <|
  some ((ile (a0.size : Int) (300 : Int)) && (!(G_strings_Contains a0 (⟨#[10]⟩ : ByteArray))))
theorem F_impl_isItemText_run (N : Nat) (a0 : ByteArray) :
    runF (O_impl_isItemText N) N B_impl_isItemText R_impl_isItemText (vals T_impl_isItemText a0) = F_impl_isItemText N a0 := by kernel_rfl
def P_impl_isItemText (N : Nat) (a0 : ByteArray) : Bool := (F_impl_isItemText N a0).isSome
def G_impl_isItemText (N : Nat) (a0 : ByteArray) : Bool := (F_impl_isItemText N a0).getD false
theorem FG_impl_isItemText {N : Nat} (a0 : ByteArray) (h : P_impl_isItemText N a0 = true) : F_impl_isItemText N a0 = some (G_impl_isItemText N a0) := some_of_isSome h
theorem PG_impl_isItemText {N : Nat} {a0 : ByteArray} {v : Bool} (h : F_impl_isItemText N a0 = some v) : P_impl_isItemText N a0 = true ∧ G_impl_isItemText N a0 = v := by unfold P_impl_isItemText G_impl_isItemText; rw [h]; exact ⟨rfl, rfl⟩
def o_impl_isItemText (N : Nat) : List V → Bool × V := mkO T_impl_isItemText R_impl_isItemText (fun (x : ByteArray) => P_impl_isItemText N x) (fun (x : ByteArray) => G_impl_isItemText N x)
theorem impl_isItemText_entry (N : Nat) : Entry Try.prog 125 (o_impl_isItemText N) := Entry.of fun (x : ByteArray) h =>
  Pf.of_run hm Try.func125 okFn_impl_isItemText B_impl_isItemText_ok B_impl_isItemText_wf (O_impl_isItemText_ok N) rfl ((F_impl_isItemText_run N x).trans (FG_impl_isItemText x h))
/-! loop.example/g00526/impl.isItem -/
abbrev T_impl_isItem : List GT := [tItem]
abbrev R_impl_isItem : List GT := [.b]
def fin_impl_isItem : Fr2 → Hp → Option Bool := finF R_impl_isItem [.t 2]
def O_impl_isItem (N : Nat) : Orac := orc [(49, o_impl_within), (125, o_impl_isItemText N)] []
theorem O_impl_isItem_ok (N : Nat) : OrcOk Try.prog (O_impl_isItem N) := OrcOk.of ⟨impl_within_entry, impl_isItemText_entry N, trivial⟩ trivial
def τ_impl_isItem : Nat → Option GT := fun _ => none
def B_impl_isItem : F2 := ⟨11, 1, [.t 2], τ_impl_isItem,
    .seq (.reg .reg [.op (some 1) (.box (.t 0)),
      .op (some 2) (.mov (.c (.b false)))])
    (.seq (.reg .reg [.op (some 3) (.fad 0 (.t 1)),
      .op (some 4) (.load 1 false (.t 3)),
      .op (some 5) (.call (.c (.f 49 [])) [.t 4, .c (.n .i64 1), .c (.n .i64 1000)]),
      .op (some 6) (.mov (.t 5)),
      .br 6 true [.op (some 7) (.fad 1 (.t 1)), .op (some 8) (.load 1 false (.t 7)), .op (some 9) (.call (.c (.f 125 [])) [.t 8])] [7, 8, 9] 10 9,
      .op (some 2) (.mov (.t 10))])
    (.ret))⟩
theorem B_impl_isItem_ok : checkFn Try.prog Try.f103 B_impl_isItem.toA = true := by kernel_rfl
theorem B_impl_isItem_wf : B_impl_isItem.body.wf = true := by kernel_rfl
theorem okFn_impl_isItem : okFn Try.prog 103 = true := by kernel_rfl
def F_impl_isItem (N : Nat) (a0 : DItem) : Option Bool :=
  chk ((P_impl_isItemText N a0.2) || (!(G_impl_within a0.1 (1 : Int) (1000 : Int)))) <|
  some ((G_impl_within a0.1 (1 : Int) (1000 : Int)) && (G_impl_isItemText N a0.2))
theorem F_impl_isItem_run (N : Nat) (a0 : DItem) :
    runF (O_impl_isItem N) N B_impl_isItem R_impl_isItem (vals T_impl_isItem a0) = F_impl_isItem N a0 := by kernel_rfl
def P_impl_isItem (N : Nat) (a0 : DItem) : Bool := (F_impl_isItem N a0).isSome
def G_impl_isItem (N : Nat) (a0 : DItem) : Bool := (F_impl_isItem N a0).getD false
theorem FG_impl_isItem {N : Nat} (a0 : DItem) (h : P_impl_isItem N a0 = true) : F_impl_isItem N a0 = some (G_impl_isItem N a0) := some_of_isSome h
theorem PG_impl_isItem {N : Nat} {a0 : DItem} {v : Bool} (h : F_impl_isItem N a0 = some v) : P_impl_isItem N a0 = true ∧ G_impl_isItem N a0 = v := by unfold P_impl_isItem G_impl_isItem; rw [h]; exact ⟨rfl, rfl⟩
def o_impl_isItem (N : Nat) : List V → Bool × V := mkO T_impl_isItem R_impl_isItem (fun (x : DItem) => P_impl_isItem N x) (fun (x : DItem) => G_impl_isItem N x)
theorem impl_isItem_entry (N : Nat) : Entry Try.prog 103 (o_impl_isItem N) := Entry.of fun (x : DItem) h =>
  Pf.of_run hm Try.func103 okFn_impl_isItem B_impl_isItem_ok B_impl_isItem_wf (O_impl_isItem_ok N) rfl ((F_impl_isItem_run N x).trans (FG_impl_isItem x h))
/-! loop.example/g00526/impl.isLetter$1 -/
abbrev T_impl_isLetter_c1 : List GT := [tItem]
abbrev R_impl_isLetter_c1 : List GT := [.b]
def fin_impl_isLetter_c1 : Fr2 → Hp → Option Bool := finF R_impl_isLetter_c1 [.t 2]
def O_impl_isLetter_c1 (N : Nat) : Orac := orc [(103, o_impl_isItem N)] []
theorem O_impl_isLetter_c1_ok (N : Nat) : OrcOk Try.prog (O_impl_isLetter_c1 N) := OrcOk.of ⟨impl_isItem_entry N, trivial⟩ trivial
def τ_impl_isLetter_c1 : Nat → Option GT := fun _ => none
def B_impl_isLetter_c1 : F2 := ⟨6, 1, [.t 2], τ_impl_isLetter_c1,
    .seq (.reg .reg [.op (some 1) (.box (.t 0)),
      .op (some 2) (.mov (.c (.b false)))])
    (.seq (.reg .reg [.op (some 3) (.load 2 true (.t 1)),
      .op (some 4) (.call (.c (.f 103 [])) [.t 3]),
      .op (some 5) (.un .not (.t 4)),
      .op (some 2) (.mov (.t 5))])
    (.ret))⟩
theorem B_impl_isLetter_c1_ok : checkFn Try.prog Try.f102 B_impl_isLetter_c1.toA = true := by kernel_rfl
theorem B_impl_isLetter_c1_wf : B_impl_isLetter_c1.body.wf = true := by kernel_rfl
theorem okFn_impl_isLetter_c1 : okFn Try.prog 102 = true := by kernel_rfl
def F_impl_isLetter_c1 (N : Nat) (a0 : DItem) : Option Bool :=
  chk (P_impl_isItem N a0) <|
  some (!(G_impl_isItem N a0))
theorem F_impl_isLetter_c1_run (N : Nat) (a0 : DItem) :
    runF (O_impl_isLetter_c1 N) N B_impl_isLetter_c1 R_impl_isLetter_c1 (vals T_impl_isLetter_c1 a0) = F_impl_isLetter_c1 N a0 := by kernel_rfl
def P_impl_isLetter_c1 (N : Nat) (a0 : DItem) : Bool := (F_impl_isLetter_c1 N a0).isSome
def G_impl_isLetter_c1 (N : Nat) (a0 : DItem) : Bool := (F_impl_isLetter_c1 N a0).getD false
theorem FG_impl_isLetter_c1 {N : Nat} (a0 : DItem) (h : P_impl_isLetter_c1 N a0 = true) : F_impl_isLetter_c1 N a0 = some (G_impl_isLetter_c1 N a0) := some_of_isSome h
theorem PG_impl_isLetter_c1 {N : Nat} {a0 : DItem} {v : Bool} (h : F_impl_isLetter_c1 N a0 = some v) : P_impl_isLetter_c1 N a0 = true ∧ G_impl_isLetter_c1 N a0 = v := by unfold P_impl_isLetter_c1 G_impl_isLetter_c1; rw [h]; exact ⟨rfl, rfl⟩
def o_impl_isLetter_c1 (N : Nat) : List V → Bool × V := mkO T_impl_isLetter_c1 R_impl_isLetter_c1 (fun (x : DItem) => P_impl_isLetter_c1 N x) (fun (x : DItem) => G_impl_isLetter_c1 N x)
theorem impl_isLetter_c1_entry (N : Nat) : Entry Try.prog 102 (o_impl_isLetter_c1 N) := Entry.of fun (x : DItem) h =>
  Pf.of_run hm Try.func102 okFn_impl_isLetter_c1 B_impl_isLetter_c1_ok B_impl_isLetter_c1_wf (O_impl_isLetter_c1_ok N) rfl ((F_impl_isLetter_c1_run N x).trans (FG_impl_isLetter_c1 x h))
/-! slices.IndexFunc[[]loop.example/g00526/impl.Item,loop.example/g00526/impl.Item] -/
abbrev T_slices_IndexFunc_Item_impl_isLetter_c1 : List GT := [(.sl tItem), (.fn 102 [])]
abbrev R_slices_IndexFunc_Item_impl_isLetter_c1 : List GT := [(.i .i64)]
def fin_slices_IndexFunc_Item_impl_isLetter_c1 : Fr2 → Hp → Option Int := finF R_slices_IndexFunc_Item_impl_isLetter_c1 [.t 4]
def O_slices_IndexFunc_Item_impl_isLetter_c1 (N : Nat) : Orac := orc [(102, o_impl_isLetter_c1 N)] []
theorem O_slices_IndexFunc_Item_impl_isLetter_c1_ok (N : Nat) : OrcOk Try.prog (O_slices_IndexFunc_Item_impl_isLetter_c1 N) := OrcOk.of ⟨impl_isLetter_c1_entry N, trivial⟩ trivial
def c_slices_IndexFunc_Item_impl_isLetter_c1_1 : C2 :=
    .seq (.reg .reg [.op (some 9) (.bin .lss (.t 8) (.t 7))])
    (.seq (.cond (.t 9) (.skip)
    (.exit 0))
    (.seq (.block 1 (.seq (.reg .reg [.op (some 10) (.mov (.t 8)),
      .op (some 5) (.mov (.t 10))])
    (.seq (.reg .reg [.op (some 11) (.mov (.t 1)),
      .op (some 12) (.mov (.t 0)),
      .op (some 13) (.mov (.t 5)),
      .op (some 14) (.iad 2 (.t 12) (.t 13)),
      .op (some 15) (.load 2 true (.t 14)),
      .op (some 16) (.call (.t 11) [.t 15])])
    (.cond (.t 16) (.seq (.reg .reg [.op (some 17) (.mov (.t 5)),
      .op (some 4) (.mov (.t 17))])
    (.ret))
    (.skip)))))
    (.reg .reg [.op (some 18) (.bin .add (.t 8) (.c (.n .i64 1))),
      .op (some 8) (.mov (.t 18))])))
def c_slices_IndexFunc_Item_impl_isLetter_c1_2 : C2 :=
    .seq (.reg .reg [.op (some 4) (.mov (.c (.n .i64 (-1))))])
    (.ret)
def τ_slices_IndexFunc_Item_impl_isLetter_c1 : Nat → Option GT := fun _ => none
def B_slices_IndexFunc_Item_impl_isLetter_c1 : F2 := ⟨19, 2, [.t 4], τ_slices_IndexFunc_Item_impl_isLetter_c1,
    .seq (.reg .reg [.op (some 4) (.mov (.c (.n .i64 0)))])
    (.seq (.seq (.reg .reg [.op (some 6) (.mov (.t 0)),
      .op (some 7) (.len false (.t 6)),
      .op (some 8) (.mov (.c (.n .i64 0)))])
    (.block 0 (.loop [0, 1, 7, 8] [] [] c_slices_IndexFunc_Item_impl_isLetter_c1_1)))
    (c_slices_IndexFunc_Item_impl_isLetter_c1_2))⟩
theorem B_slices_IndexFunc_Item_impl_isLetter_c1_ok : checkFn Try.prog Try.f124 B_slices_IndexFunc_Item_impl_isLetter_c1.toA = true := by kernel_rfl
theorem B_slices_IndexFunc_Item_impl_isLetter_c1_wf : B_slices_IndexFunc_Item_impl_isLetter_c1.body.wf = true := by kernel_rfl
theorem okFn_slices_IndexFunc_Item_impl_isLetter_c1 : okFn Try.prog 124 = true := by kernel_rfl
def slices_IndexFunc_Item_impl_isLetter_c1_l1s (r0 : Int → Option Int) (k0_0 : Option Int) (N : Nat) (a0 : List DItem) (pv7_1 : Int) (v8_1 : Int) : Option Int :=
  bif (ilt v8_1 pv7_1) then
    let x1 : DItem := (a0.getD (v8_1.toNat) dItem)
    chk (inb v8_1 (a0.length)) <|
    chk (P_impl_isLetter_c1 N x1) <|
    bif (G_impl_isLetter_c1 N x1) then
      some v8_1
    else
      r0 (w64 (v8_1 + (1 : Int)))
  else
    k0_0
theorem slices_IndexFunc_Item_impl_isLetter_c1_l1s_run (N : Nat) (C0 : Fr2 → Hp → Option Int) (K0 : Option Nat → Fr2 → Hp → Option Int) (a0 : List DItem) (pv7_1 : Int) (v8_1 : Int) :
    rcode (O_slices_IndexFunc_Item_impl_isLetter_c1 N) τ_slices_IndexFunc_Item_impl_isLetter_c1 N fin_slices_IndexFunc_Item_impl_isLetter_c1 c_slices_IndexFunc_Item_impl_isLetter_c1_1 [(0, .q tItem a0), (1, .f 102 []), (7, .n .i64 pv7_1), (8, .n .i64 v8_1)] ⟨1, []⟩ (roundK [0, 1, 7, 8] [] [] C0 K0) = slices_IndexFunc_Item_impl_isLetter_c1_l1s (fun v8_1 => C0 [(0, .q tItem a0), (1, .f 102 []), (7, .n .i64 pv7_1), (8, .n .i64 v8_1)] ⟨1, []⟩) (K0 (some 0) [] ⟨1, []⟩) N a0 pv7_1 v8_1 := by kernel_rfl
def slices_IndexFunc_Item_impl_isLetter_c1_x1_0 (N : Nat) : Option Int :=
  some (-1 : Int)
theorem slices_IndexFunc_Item_impl_isLetter_c1_x1_0_run (N : Nat)  :
    (blockK 0 (seqK' (fun fr H K => rcode (O_slices_IndexFunc_Item_impl_isLetter_c1 N) τ_slices_IndexFunc_Item_impl_isLetter_c1 N fin_slices_IndexFunc_Item_impl_isLetter_c1 c_slices_IndexFunc_Item_impl_isLetter_c1_2 fr H K) (finK R_slices_IndexFunc_Item_impl_isLetter_c1 [.t 4]))) (some 0) [] ⟨1, []⟩ = slices_IndexFunc_Item_impl_isLetter_c1_x1_0 N := by kernel_rfl
def slices_IndexFunc_Item_impl_isLetter_c1_l1 (k0_0 : Option Int) (N : Nat) (a0 : List DItem) (pv7_1 : Int) : Nat → Int → Option Int
  | 0, _ => none
  | n + 1, v8_1 => slices_IndexFunc_Item_impl_isLetter_c1_l1s (slices_IndexFunc_Item_impl_isLetter_c1_l1 k0_0 N a0 pv7_1 n) k0_0 N a0 pv7_1 v8_1
def slices_IndexFunc_Item_impl_isLetter_c1_h1 (N : Nat) (a0 : List DItem) (pv7_1 : Int) (v8_1 : Int) : Option Int :=
  slices_IndexFunc_Item_impl_isLetter_c1_l1 (slices_IndexFunc_Item_impl_isLetter_c1_x1_0 N) N a0 pv7_1 N v8_1
theorem slices_IndexFunc_Item_impl_isLetter_c1_l1_run (N : Nat)  (K : Option Nat → Fr2 → Hp → Option Int) (a0 : List DItem) (pv7_1 : Int) : ∀ (n : Nat) (v8_1 : Int),
    rloop (fun fr H K => rcode (O_slices_IndexFunc_Item_impl_isLetter_c1 N) τ_slices_IndexFunc_Item_impl_isLetter_c1 N fin_slices_IndexFunc_Item_impl_isLetter_c1 c_slices_IndexFunc_Item_impl_isLetter_c1_1 fr H K) [0, 1, 7, 8] [] [] K n [(0, .q tItem a0), (1, .f 102 []), (7, .n .i64 pv7_1), (8, .n .i64 v8_1)] ⟨1, []⟩ = slices_IndexFunc_Item_impl_isLetter_c1_l1 (K (some 0) [] ⟨1, []⟩) N a0 pv7_1 n v8_1 := by
  intro n
  induction n with
  | zero => intro v8_1; kernel_rfl
  | succ n ih => intro v8_1; exact (slices_IndexFunc_Item_impl_isLetter_c1_l1s_run N (rloop (fun fr H K => rcode (O_slices_IndexFunc_Item_impl_isLetter_c1 N) τ_slices_IndexFunc_Item_impl_isLetter_c1 N fin_slices_IndexFunc_Item_impl_isLetter_c1 c_slices_IndexFunc_Item_impl_isLetter_c1_1 fr H K) [0, 1, 7, 8] [] [] K n) K a0 pv7_1 v8_1).trans (congrArg (fun r => slices_IndexFunc_Item_impl_isLetter_c1_l1s r (K (some 0) [] ⟨1, []⟩) N a0 pv7_1 v8_1) (funext fun v8_1 => ih v8_1))
theorem slices_IndexFunc_Item_impl_isLetter_c1_h1_run (N : Nat) (a0 : List DItem) (pv7_1 : Int) (v8_1 : Int) : rloop (fun fr H K => rcode (O_slices_IndexFunc_Item_impl_isLetter_c1 N) τ_slices_IndexFunc_Item_impl_isLetter_c1 N fin_slices_IndexFunc_Item_impl_isLetter_c1 c_slices_IndexFunc_Item_impl_isLetter_c1_1 fr H K) [0, 1, 7, 8] [] [] (blockK 0 (seqK' (fun fr H K => rcode (O_slices_IndexFunc_Item_impl_isLetter_c1 N) τ_slices_IndexFunc_Item_impl_isLetter_c1 N fin_slices_IndexFunc_Item_impl_isLetter_c1 c_slices_IndexFunc_Item_impl_isLetter_c1_2 fr H K) (finK R_slices_IndexFunc_Item_impl_isLetter_c1 [.t 4]))) N [(0, .q tItem a0), (1, .f 102 []), (7, .n .i64 pv7_1), (8, .n .i64 v8_1)] ⟨1, []⟩ = slices_IndexFunc_Item_impl_isLetter_c1_h1 N a0 pv7_1 v8_1 :=
  ((slices_IndexFunc_Item_impl_isLetter_c1_l1_run N (blockK 0 (seqK' (fun fr H K => rcode (O_slices_IndexFunc_Item_impl_isLetter_c1 N) τ_slices_IndexFunc_Item_impl_isLetter_c1 N fin_slices_IndexFunc_Item_impl_isLetter_c1 c_slices_IndexFunc_Item_impl_isLetter_c1_2 fr H K) (finK R_slices_IndexFunc_Item_impl_isLetter_c1 [.t 4]))) a0 pv7_1 N v8_1)).trans (congrArg (fun h => slices_IndexFunc_Item_impl_isLetter_c1_l1 h N a0 pv7_1 N v8_1) (slices_IndexFunc_Item_impl_isLetter_c1_x1_0_run N ))
def F_slices_IndexFunc_Item_impl_isLetter_c1R (N : Nat) (slices_IndexFunc_Item_impl_isLetter_c1_h1 : List DItem → Int → Int → Option Int) (a0 : List DItem) (a1 : Unit) : Option Int :=
  slices_IndexFunc_Item_impl_isLetter_c1_h1 a0 ((a0.length) : Int) (0 : Int)
def F_slices_IndexFunc_Item_impl_isLetter_c1 (N : Nat) (a0 : List DItem) (a1 : Unit) : Option Int := F_slices_IndexFunc_Item_impl_isLetter_c1R N (slices_IndexFunc_Item_impl_isLetter_c1_h1 N) a0 a1
theorem F_slices_IndexFunc_Item_impl_isLetter_c1_raw (N : Nat) (a0 : List DItem) (a1 : Unit) :
    runF (O_slices_IndexFunc_Item_impl_isLetter_c1 N) N B_slices_IndexFunc_Item_impl_isLetter_c1 R_slices_IndexFunc_Item_impl_isLetter_c1 (vals T_slices_IndexFunc_Item_impl_isLetter_c1 (a0, a1)) = F_slices_IndexFunc_Item_impl_isLetter_c1R N (fun a0 pv7_1 v8_1 => rloop (fun fr H K => rcode (O_slices_IndexFunc_Item_impl_isLetter_c1 N) τ_slices_IndexFunc_Item_impl_isLetter_c1 N fin_slices_IndexFunc_Item_impl_isLetter_c1 c_slices_IndexFunc_Item_impl_isLetter_c1_1 fr H K) [0, 1, 7, 8] [] [] (blockK 0 (seqK' (fun fr H K => rcode (O_slices_IndexFunc_Item_impl_isLetter_c1 N) τ_slices_IndexFunc_Item_impl_isLetter_c1 N fin_slices_IndexFunc_Item_impl_isLetter_c1 c_slices_IndexFunc_Item_impl_isLetter_c1_2 fr H K) (finK R_slices_IndexFunc_Item_impl_isLetter_c1 [.t 4]))) N [(0, .q tItem a0), (1, .f 102 []), (7, .n .i64 pv7_1), (8, .n .i64 v8_1)] ⟨1, []⟩) a0 a1 := by kernel_rfl
theorem F_slices_IndexFunc_Item_impl_isLetter_c1_run (N : Nat) (a0 : List DItem) (a1 : Unit) :
    runF (O_slices_IndexFunc_Item_impl_isLetter_c1 N) N B_slices_IndexFunc_Item_impl_isLetter_c1 R_slices_IndexFunc_Item_impl_isLetter_c1 (vals T_slices_IndexFunc_Item_impl_isLetter_c1 (a0, a1)) = F_slices_IndexFunc_Item_impl_isLetter_c1 N a0 a1 :=
  (F_slices_IndexFunc_Item_impl_isLetter_c1_raw N a0 a1).trans (congrArg (fun h => F_slices_IndexFunc_Item_impl_isLetter_c1R N h a0 a1) (funext fun a0 => funext fun pv7_1 => funext fun v8_1 => slices_IndexFunc_Item_impl_isLetter_c1_h1_run N a0 pv7_1 v8_1))
def P_slices_IndexFunc_Item_impl_isLetter_c1 (N : Nat) (a0 : List DItem) (a1 : Unit) : Bool := (F_slices_IndexFunc_Item_impl_isLetter_c1 N a0 a1).isSome
def G_slices_IndexFunc_Item_impl_isLetter_c1 (N : Nat) (a0 : List DItem) (a1 : Unit) : Int := (F_slices_IndexFunc_Item_impl_isLetter_c1 N a0 a1).getD (0 : Int)
theorem FG_slices_IndexFunc_Item_impl_isLetter_c1 {N : Nat} (a0 : List DItem) (a1 : Unit) (h : P_slices_IndexFunc_Item_impl_isLetter_c1 N a0 a1 = true) : F_slices_IndexFunc_Item_impl_isLetter_c1 N a0 a1 = some (G_slices_IndexFunc_Item_impl_isLetter_c1 N a0 a1) := some_of_isSome h
theorem PG_slices_IndexFunc_Item_impl_isLetter_c1 {N : Nat} {a0 : List DItem} {a1 : Unit} {v : Int} (h : F_slices_IndexFunc_Item_impl_isLetter_c1 N a0 a1 = some v) : P_slices_IndexFunc_Item_impl_isLetter_c1 N a0 a1 = true ∧ G_slices_IndexFunc_Item_impl_isLetter_c1 N a0 a1 = v := by unfold P_slices_IndexFunc_Item_impl_isLetter_c1 G_slices_IndexFunc_Item_impl_isLetter_c1; rw [h]; exact ⟨rfl, rfl⟩
def o_slices_IndexFunc_Item_impl_isLetter_c1 (N : Nat) : List V → Bool × V := mkO T_slices_IndexFunc_Item_impl_isLetter_c1 R_slices_IndexFunc_Item_impl_isLetter_c1 (fun (x : (List DItem × Unit)) => P_slices_IndexFunc_Item_impl_isLetter_c1 N x.1 x.2) (fun (x : (List DItem × Unit)) => G_slices_IndexFunc_Item_impl_isLetter_c1 N x.1 x.2)
theorem slices_IndexFunc_Item_impl_isLetter_c1_entry (N : Nat) : Entry Try.prog 124 (o_slices_IndexFunc_Item_impl_isLetter_c1 N) := Entry.of fun (x : (List DItem × Unit)) h =>
  Pf.of_run hm Try.func124 okFn_slices_IndexFunc_Item_impl_isLetter_c1 B_slices_IndexFunc_Item_impl_isLetter_c1_ok B_slices_IndexFunc_Item_impl_isLetter_c1_wf (O_slices_IndexFunc_Item_impl_isLetter_c1_ok N) rfl ((F_slices_IndexFunc_Item_impl_isLetter_c1_run N x.1 x.2).trans (FG_slices_IndexFunc_Item_impl_isLetter_c1 x.1 x.2 h))
/-! slices.ContainsFunc[[]loop.example/g00526/impl.Item,loop.example/g00526/impl.Item] -/
abbrev T_slices_ContainsFunc_Item_impl_isLetter_c1 : List GT := [(.sl tItem), (.fn 102 [])]
abbrev R_slices_ContainsFunc_Item_impl_isLetter_c1 : List GT := [.b]
def fin_slices_ContainsFunc_Item_impl_isLetter_c1 : Fr2 → Hp → Option Bool := finF R_slices_ContainsFunc_Item_impl_isLetter_c1 [.t 4]
def O_slices_ContainsFunc_Item_impl_isLetter_c1 (N : Nat) : Orac := orc [(124, o_slices_IndexFunc_Item_impl_isLetter_c1 N)] []
theorem O_slices_ContainsFunc_Item_impl_isLetter_c1_ok (N : Nat) : OrcOk Try.prog (O_slices_ContainsFunc_Item_impl_isLetter_c1 N) := OrcOk.of ⟨slices_IndexFunc_Item_impl_isLetter_c1_entry N, trivial⟩ trivial
def τ_slices_ContainsFunc_Item_impl_isLetter_c1 : Nat → Option GT := fun _ => none
def B_slices_ContainsFunc_Item_impl_isLetter_c1 : F2 := ⟨9, 2, [.t 4], τ_slices_ContainsFunc_Item_impl_isLetter_c1,
    .seq (.reg .reg [.op (some 4) (.mov (.c (.b false)))])
    (.seq (.reg .reg [.op (some 5) (.mov (.t 0)),
      .op (some 6) (.mov (.t 1)),
      .op (some 7) (.call (.c (.f 124 [])) [.t 5, .t 6]),
      .op (some 8) (.bin .geq (.t 7) (.c (.n .i64 0))),
      .op (some 4) (.mov (.t 8))])
    (.ret))⟩
theorem B_slices_ContainsFunc_Item_impl_isLetter_c1_ok : checkFn Try.prog Try.f101 B_slices_ContainsFunc_Item_impl_isLetter_c1.toA = true := by kernel_rfl
theorem B_slices_ContainsFunc_Item_impl_isLetter_c1_wf : B_slices_ContainsFunc_Item_impl_isLetter_c1.body.wf = true := by kernel_rfl
theorem okFn_slices_ContainsFunc_Item_impl_isLetter_c1 : okFn Try.prog 101 = true := by kernel_rfl
def F_slices_ContainsFunc_Item_impl_isLetter_c1 (N : Nat) (a0 : List DItem) (a1 : Unit) : Option Bool :=
  chk (P_slices_IndexFunc_Item_impl_isLetter_c1 N a0 ()) <|
  some (ile (0 : Int) (G_slices_IndexFunc_Item_impl_isLetter_c1 N a0 ()))
theorem F_slices_ContainsFunc_Item_impl_isLetter_c1_run (N : Nat) (a0 : List DItem) (a1 : Unit) :
    runF (O_slices_ContainsFunc_Item_impl_isLetter_c1 N) N B_slices_ContainsFunc_Item_impl_isLetter_c1 R_slices_ContainsFunc_Item_impl_isLetter_c1 (vals T_slices_ContainsFunc_Item_impl_isLetter_c1 (a0, a1)) = F_slices_ContainsFunc_Item_impl_isLetter_c1 N a0 a1 := by kernel_rfl
def P_slices_ContainsFunc_Item_impl_isLetter_c1 (N : Nat) (a0 : List DItem) (a1 : Unit) : Bool := (F_slices_ContainsFunc_Item_impl_isLetter_c1 N a0 a1).isSome
def G_slices_ContainsFunc_Item_impl_isLetter_c1 (N : Nat) (a0 : List DItem) (a1 : Unit) : Bool := (F_slices_ContainsFunc_Item_impl_isLetter_c1 N a0 a1).getD false
theorem FG_slices_ContainsFunc_Item_impl_isLetter_c1 {N : Nat} (a0 : List DItem) (a1 : Unit) (h : P_slices_ContainsFunc_Item_impl_isLetter_c1 N a0 a1 = true) : F_slices_ContainsFunc_Item_impl_isLetter_c1 N a0 a1 = some (G_slices_ContainsFunc_Item_impl_isLetter_c1 N a0 a1) := some_of_isSome h
theorem PG_slices_ContainsFunc_Item_impl_isLetter_c1 {N : Nat} {a0 : List DItem} {a1 : Unit} {v : Bool} (h : F_slices_ContainsFunc_Item_impl_isLetter_c1 N a0 a1 = some v) : P_slices_ContainsFunc_Item_impl_isLetter_c1 N a0 a1 = true ∧ G_slices_ContainsFunc_Item_impl_isLetter_c1 N a0 a1 = v := by unfold P_slices_ContainsFunc_Item_impl_isLetter_c1 G_slices_ContainsFunc_Item_impl_isLetter_c1; rw [h]; exact ⟨rfl, rfl⟩
def o_slices_ContainsFunc_Item_impl_isLetter_c1 (N : Nat) : List V → Bool × V := mkO T_slices_ContainsFunc_Item_impl_isLetter_c1 R_slices_ContainsFunc_Item_impl_isLetter_c1 (fun (x : (List DItem × Unit)) => P_slices_ContainsFunc_Item_impl_isLetter_c1 N x.1 x.2) (fun (x : (List DItem × Unit)) => G_slices_ContainsFunc_Item_impl_isLetter_c1 N x.1 x.2)
theorem slices_ContainsFunc_Item_impl_isLetter_c1_entry (N : Nat) : Entry Try.prog 101 (o_slices_ContainsFunc_Item_impl_isLetter_c1 N) := Entry.of fun (x : (List DItem × Unit)) h =>
  Pf.of_run hm Try.func101 okFn_slices_ContainsFunc_Item_impl_isLetter_c1 B_slices_ContainsFunc_Item_impl_isLetter_c1_ok B_slices_ContainsFunc_Item_impl_isLetter_c1_wf (O_slices_ContainsFunc_Item_impl_isLetter_c1_ok N) rfl ((F_slices_ContainsFunc_Item_impl_isLetter_c1_run N x.1 x.2).trans (FG_slices_ContainsFunc_Item_impl_isLetter_c1 x.1 x.2 h))
/-! loop.example/g00526/impl.isLetter -/
abbrev T_impl_isLetter : List GT := [tLetter]
abbrev R_impl_isLetter : List GT := [.b]
def fin_impl_isLetter : Fr2 → Hp → Option Bool := finF R_impl_isLetter [.t 2]
def O_impl_isLetter (N : Nat) : Orac := orc [(49, o_impl_within), (101, o_slices_ContainsFunc_Item_impl_isLetter_c1 N)] []
theorem O_impl_isLetter_ok (N : Nat) : OrcOk Try.prog (O_impl_isLetter N) := OrcOk.of ⟨impl_within_entry, slices_ContainsFunc_Item_impl_isLetter_c1_entry N, trivial⟩ trivial
def τ_impl_isLetter : Nat → Option GT := fun _ => none
def B_impl_isLetter : F2 := ⟨121, 1, [.t 2], τ_impl_isLetter,
    .seq (.reg .reg [.op (some 1) (.box (.t 0)),
      .op (some 2) (.mov (.c (.b false)))])
    (.seq (.reg .reg [.op (some 6) (.fad 0 (.t 1)),
      .op (some 7) (.load 1 false (.t 6)),
      .op (some 8) (.bin .eql (.t 7) (.c (.n .i64 3))),
      .op (some 3) (.mov (.t 8))])
    (.seq (.reg .reg [.op (some 9) (.mov (.t 3)),
      .op (some 10) (.mov (.t 9)),
      .br 10 false [.op (some 11) (.fad 0 (.t 1)), .op (some 12) (.load 1 false (.t 11)), .op (some 13) (.bin .eql (.t 12) (.c (.n .i64 1)))] [11, 12, 13] 14 13,
      .op (some 4) (.mov (.t 14))])
    (.seq (.reg .reg [.op (some 15) (.fad 0 (.t 1)),
      .op (some 16) (.load 1 false (.t 15)),
      .op (some 17) (.bin .eql (.t 16) (.c (.n .i64 2))),
      .op (some 18) (.mov (.t 17)),
      .br 18 false [.op (some 19) (.fad 0 (.t 1)), .op (some 20) (.load 1 false (.t 19)), .op (some 21) (.bin .eql (.t 20) (.c (.n .i64 4)))] [19, 20, 21] 22 21,
      .op (some 5) (.mov (.t 22))])
    (.seq (.reg .reg [.op (some 23) (.fad 0 (.t 1)),
      .op (some 24) (.load 1 false (.t 23)),
      .op (some 25) (.call (.c (.f 49 [])) [.t 24, .c (.n .i64 1), .c (.n .i64 4)]),
      .op (some 26) (.mov (.t 25)),
      .br 26 true [.op (some 27) (.fad 1 (.t 1)), .op (some 28) (.load 1 false (.t 27)), .op (some 29) (.call (.c (.f 49 [])) [.t 28, .c (.n .i64 0), .c (.n .i64 2)])] [27, 28, 29] 30 29,
      .op (some 31) (.mov (.t 30)),
      .br 31 true [.op (some 32) (.fad 2 (.t 1)), .op (some 33) (.load 1 false (.t 32)), .op (some 34) (.call (.c (.f 49 [])) [.t 33, .c (.n .i64 0), .c (.n .i64 2)])] [32, 33, 34] 35 34,
      .op (some 36) (.mov (.t 35)),
      .br 36 true [.op (some 37) (.fad 1 (.t 1)), .op (some 38) (.load 1 false (.t 37)), .op (some 39) (.fad 2 (.t 1)), .op (some 40) (.load 1 false (.t 39)), .op (some 41) (.bin .neq (.t 38) (.t 40))] [37, 38, 39, 40, 41] 42 41,
      .op (some 43) (.mov (.t 42)),
      .br 43 true [.op (some 44) (.fad 3 (.t 1)), .op (some 45) (.load 1 false (.t 44)), .op (some 46) (.call (.c (.f 49 [])) [.t 45, .c (.n .i64 1), .c (.n .i64 1000)])] [44, 45, 46] 47 46,
      .op (some 48) (.mov (.t 47)),
      .br 48 true [.op (some 49) (.fad 4 (.t 1)), .op (some 50) (.load 1 false (.t 49)), .op (some 51) (.call (.c (.f 49 [])) [.t 50, .c (.n .i64 0), .c (.n .i64 40)])] [49, 50, 51] 52 51,
      .op (some 53) (.mov (.t 52)),
      .br 53 true [.op (some 54) (.mov (.t 4)), .op (some 55) (.mov (.t 54)), .br 55 false [.op (some 56) (.fad 0 (.t 1)), .op (some 57) (.load 1 false (.t 56)), .op (some 58) (.bin .eql (.t 57) (.c (.n .i64 4)))] [56, 57, 58] 59 58, .op (some 60) (.mov (.t 59)), .br 60 false [.op (some 61) (.fad 4 (.t 1)), .op (some 62) (.load 1 false (.t 61)), .op (some 63) (.bin .eql (.t 62) (.c (.n .i64 0)))] [61, 62, 63] 64 63] [54, 55, 56, 57, 58, 59, 60, 61, 62, 63, 64] 65 64,
      .op (some 66) (.mov (.t 65)),
      .br 66 true [.op (some 67) (.fad 5 (.t 1)), .op (some 68) (.load 1 false (.t 67)), .op (some 69) (.call (.c (.f 49 [])) [.t 68, .c (.n .i64 0), .c (.n .i64 1000)])] [67, 68, 69] 70 69,
      .op (some 71) (.mov (.t 70)),
      .br 71 true [.op (some 72) (.mov (.t 4)), .op (some 73) (.mov (.t 72)), .br 73 false [.op (some 74) (.fad 5 (.t 1)), .op (some 75) (.load 1 false (.t 74)), .op (some 76) (.bin .eql (.t 75) (.c (.n .i64 0)))] [74, 75, 76] 77 76] [72, 73, 74, 75, 76, 77] 78 77,
      .op (some 79) (.mov (.t 78)),
      .br 79 true [.op (some 80) (.fad 7 (.t 1)), .op (some 81) (.load 1 false (.t 80)), .op (some 82) (.call (.c (.f 49 [])) [.t 81, .c (.n .i64 0), .c (.n .i64 40)])] [80, 81, 82] 83 82,
      .op (some 84) (.mov (.t 83)),
      .br 84 true [.op (some 85) (.mov (.t 3)), .op (some 86) (.mov (.t 85)), .br 86 false [.op (some 87) (.fad 7 (.t 1)), .op (some 88) (.load 1 false (.t 87)), .op (some 89) (.bin .eql (.t 88) (.c (.n .i64 0)))] [87, 88, 89] 90 89] [85, 86, 87, 88, 89, 90] 91 90,
      .op (some 92) (.mov (.t 91)),
      .br 92 true [.op (some 93) (.fad 6 (.t 1)), .op (some 94) (.load 1 false (.t 93)), .op (some 95) (.len false (.t 94)), .op (some 96) (.bin .leq (.t 95) (.c (.n .i64 4)))] [93, 94, 95, 96] 97 96,
      .op (some 98) (.mov (.t 97)),
      .br 98 true [.op (some 99) (.mov (.t 3)), .op (some 100) (.mov (.t 99)), .br 100 false [.op (some 101) (.fad 6 (.t 1)), .op (some 102) (.load 1 false (.t 101)), .op (some 103) (.len false (.t 102)), .op (some 104) (.bin .eql (.t 103) (.c (.n .i64 0)))] [101, 102, 103, 104] 105 104] [99, 100, 101, 102, 103, 104, 105] 106 105,
      .op (some 107) (.mov (.t 106)),
      .br 107 true [.op (some 108) (.fad 6 (.t 1)), .op (some 109) (.load 1 false (.t 108)), .op (some 110) (.call (.c (.f 101 [])) [.t 109, .c (.f 102 [])]), .op (some 111) (.un .not (.t 110))] [108, 109, 110, 111] 112 111,
      .op (some 113) (.mov (.t 112)),
      .br 113 true [.op (some 114) (.mov (.t 5)), .op (some 115) (.mov (.t 114)), .br 115 false [.op (some 116) (.fad 8 (.t 1)), .op (some 117) (.load 1 false (.t 116)), .op (some 118) (.un .not (.t 117))] [116, 117, 118] 119 118] [114, 115, 116, 117, 118, 119] 120 119,
      .op (some 2) (.mov (.t 120))])
    (.ret)))))⟩
theorem B_impl_isLetter_ok : checkFn Try.prog Try.f75 B_impl_isLetter.toA = true := by kernel_rfl
theorem B_impl_isLetter_wf : B_impl_isLetter.body.wf = true := by kernel_rfl
theorem okFn_impl_isLetter : okFn Try.prog 75 = true := by kernel_rfl
def F_impl_isLetter (N : Nat) (a0 : DLetter) : Option Bool :=
  chk ((P_slices_ContainsFunc_Item_impl_isLetter_c1 N a0.2.2.2.2.2.2.1 ()) || (!(((((((((((((G_impl_within a0.1 (1 : Int) (4 : Int)) && (G_impl_within a0.2.1 (0 : Int) (2 : Int))) && (G_impl_within a0.2.2.1 (0 : Int) (2 : Int))) && (!ieq a0.2.1 a0.2.2.1)) && (G_impl_within a0.2.2.2.1 (1 : Int) (1000 : Int))) && (G_impl_within a0.2.2.2.2.1 (0 : Int) (40 : Int))) && ((((ieq a0.1 (3 : Int)) || (ieq a0.1 (1 : Int))) || (ieq a0.1 (4 : Int))) || (ieq a0.2.2.2.2.1 (0 : Int)))) && (G_impl_within a0.2.2.2.2.2.1 (0 : Int) (1000 : Int))) && (((ieq a0.1 (3 : Int)) || (ieq a0.1 (1 : Int))) || (ieq a0.2.2.2.2.2.1 (0 : Int)))) && (G_impl_within a0.2.2.2.2.2.2.2.1 (0 : Int) (40 : Int))) && ((ieq a0.1 (3 : Int)) || (ieq a0.2.2.2.2.2.2.2.1 (0 : Int)))) && (ile ((a0.2.2.2.2.2.2.1.length) : Int) (4 : Int))) && ((ieq a0.1 (3 : Int)) || (ieq ((a0.2.2.2.2.2.2.1.length) : Int) (0 : Int)))))) <|
  some (((((((((((((((G_impl_within a0.1 (1 : Int) (4 : Int)) && (G_impl_within a0.2.1 (0 : Int) (2 : Int))) && (G_impl_within a0.2.2.1 (0 : Int) (2 : Int))) && (!ieq a0.2.1 a0.2.2.1)) && (G_impl_within a0.2.2.2.1 (1 : Int) (1000 : Int))) && (G_impl_within a0.2.2.2.2.1 (0 : Int) (40 : Int))) && ((((ieq a0.1 (3 : Int)) || (ieq a0.1 (1 : Int))) || (ieq a0.1 (4 : Int))) || (ieq a0.2.2.2.2.1 (0 : Int)))) && (G_impl_within a0.2.2.2.2.2.1 (0 : Int) (1000 : Int))) && (((ieq a0.1 (3 : Int)) || (ieq a0.1 (1 : Int))) || (ieq a0.2.2.2.2.2.1 (0 : Int)))) && (G_impl_within a0.2.2.2.2.2.2.2.1 (0 : Int) (40 : Int))) && ((ieq a0.1 (3 : Int)) || (ieq a0.2.2.2.2.2.2.2.1 (0 : Int)))) && (ile ((a0.2.2.2.2.2.2.1.length) : Int) (4 : Int))) && ((ieq a0.1 (3 : Int)) || (ieq ((a0.2.2.2.2.2.2.1.length) : Int) (0 : Int)))) && (!(G_slices_ContainsFunc_Item_impl_isLetter_c1 N a0.2.2.2.2.2.2.1 ()))) && (((ieq a0.1 (2 : Int)) || (ieq a0.1 (4 : Int))) || (!a0.2.2.2.2.2.2.2.2)))
theorem F_impl_isLetter_run (N : Nat) (a0 : DLetter) :
    runF (O_impl_isLetter N) N B_impl_isLetter R_impl_isLetter (vals T_impl_isLetter a0) = F_impl_isLetter N a0 := by kernel_rfl
def P_impl_isLetter (N : Nat) (a0 : DLetter) : Bool := (F_impl_isLetter N a0).isSome
def G_impl_isLetter (N : Nat) (a0 : DLetter) : Bool := (F_impl_isLetter N a0).getD false
theorem FG_impl_isLetter {N : Nat} (a0 : DLetter) (h : P_impl_isLetter N a0 = true) : F_impl_isLetter N a0 = some (G_impl_isLetter N a0) := some_of_isSome h
theorem PG_impl_isLetter {N : Nat} {a0 : DLetter} {v : Bool} (h : F_impl_isLetter N a0 = some v) : P_impl_isLetter N a0 = true ∧ G_impl_isLetter N a0 = v := by unfold P_impl_isLetter G_impl_isLetter; rw [h]; exact ⟨rfl, rfl⟩
def o_impl_isLetter (N : Nat) : List V → Bool × V := mkO T_impl_isLetter R_impl_isLetter (fun (x : DLetter) => P_impl_isLetter N x) (fun (x : DLetter) => G_impl_isLetter N x)
theorem impl_isLetter_entry (N : Nat) : Entry Try.prog 75 (o_impl_isLetter N) := Entry.of fun (x : DLetter) h =>
  Pf.of_run hm Try.func75 okFn_impl_isLetter B_impl_isLetter_ok B_impl_isLetter_wf (O_impl_isLetter_ok N) rfl ((F_impl_isLetter_run N x).trans (FG_impl_isLetter x h))
/-! loop.example/g00526/impl.LetterOk -/
abbrev T_impl_LetterOk : List GT := [tLetter]
abbrev R_impl_LetterOk : List GT := [.b]
def fin_impl_LetterOk : Fr2 → Hp → Option Bool := finF R_impl_LetterOk [.t 2]
def O_impl_LetterOk (N : Nat) : Orac := orc [(75, o_impl_isLetter N)] []
theorem O_impl_LetterOk_ok (N : Nat) : OrcOk Try.prog (O_impl_LetterOk N) := OrcOk.of ⟨impl_isLetter_entry N, trivial⟩ trivial
def τ_impl_LetterOk : Nat → Option GT := fun _ => none
def B_impl_LetterOk : F2 := ⟨5, 1, [.t 2], τ_impl_LetterOk,
    .seq (.reg .reg [.op (some 1) (.box (.t 0)),
      .op (some 2) (.mov (.c (.b false)))])
    (.seq (.reg .reg [.op (some 3) (.load 9 true (.t 1)),
      .op (some 4) (.call (.c (.f 75 [])) [.t 3]),
      .op (some 2) (.mov (.t 4))])
    (.ret))⟩
theorem B_impl_LetterOk_ok : checkFn Try.prog Try.f31 B_impl_LetterOk.toA = true := by kernel_rfl
theorem B_impl_LetterOk_wf : B_impl_LetterOk.body.wf = true := by kernel_rfl
theorem okFn_impl_LetterOk : okFn Try.prog 31 = true := by kernel_rfl
def F_impl_LetterOk (N : Nat) (a0 : DLetter) : Option Bool :=
  chk (P_impl_isLetter N a0) <|
  some (G_impl_isLetter N a0)
theorem F_impl_LetterOk_run (N : Nat) (a0 : DLetter) :
    runF (O_impl_LetterOk N) N B_impl_LetterOk R_impl_LetterOk (vals T_impl_LetterOk a0) = F_impl_LetterOk N a0 := by kernel_rfl
def P_impl_LetterOk (N : Nat) (a0 : DLetter) : Bool := (F_impl_LetterOk N a0).isSome
def G_impl_LetterOk (N : Nat) (a0 : DLetter) : Bool := (F_impl_LetterOk N a0).getD false
theorem FG_impl_LetterOk {N : Nat} (a0 : DLetter) (h : P_impl_LetterOk N a0 = true) : F_impl_LetterOk N a0 = some (G_impl_LetterOk N a0) := some_of_isSome h
theorem PG_impl_LetterOk {N : Nat} {a0 : DLetter} {v : Bool} (h : F_impl_LetterOk N a0 = some v) : P_impl_LetterOk N a0 = true ∧ G_impl_LetterOk N a0 = v := by unfold P_impl_LetterOk G_impl_LetterOk; rw [h]; exact ⟨rfl, rfl⟩
def o_impl_LetterOk (N : Nat) : List V → Bool × V := mkO T_impl_LetterOk R_impl_LetterOk (fun (x : DLetter) => P_impl_LetterOk N x) (fun (x : DLetter) => G_impl_LetterOk N x)
theorem impl_LetterOk_entry (N : Nat) : Entry Try.prog 31 (o_impl_LetterOk N) := Entry.of fun (x : DLetter) h =>
  Pf.of_run hm Try.func31 okFn_impl_LetterOk B_impl_LetterOk_ok B_impl_LetterOk_wf (O_impl_LetterOk_ok N) rfl ((F_impl_LetterOk_run N x).trans (FG_impl_LetterOk x h))
/-! loop.example/g00526/laws.eqItem -/
abbrev T_laws_eqItem : List GT := [tItem, tItem]
abbrev R_laws_eqItem : List GT := [.b]
def fin_laws_eqItem : Fr2 → Hp → Option Bool := finF R_laws_eqItem [.t 4]
def O_laws_eqItem (N : Nat) : Orac := orc [] []
theorem O_laws_eqItem_ok (N : Nat) : OrcOk Try.prog (O_laws_eqItem N) := OrcOk.of trivial trivial
def τ_laws_eqItem : Nat → Option GT := fun _ => none
def B_laws_eqItem : F2 := ⟨15, 2, [.t 4], τ_laws_eqItem,
    .seq (.reg .reg [.op (some 2) (.box (.t 0)),
      .op (some 3) (.box (.t 1)),
      .op (some 4) (.mov (.c (.b false)))])
    (.seq (.seq (.reg .reg [.op (some 5) (.fad 0 (.t 2)),
      .op (some 6) (.load 1 false (.t 5)),
      .op (some 7) (.fad 0 (.t 3)),
      .op (some 8) (.load 1 false (.t 7)),
      .op (some 9) (.bin .neq (.t 6) (.t 8))])
    (.cond (.t 9) (.seq (.reg .reg [.op (some 4) (.mov (.c (.b false)))])
    (.ret))
    (.skip)))
    (.seq (.seq (.reg .reg [.op (some 10) (.fad 1 (.t 2)),
      .op (some 11) (.load 1 false (.t 10)),
      .op (some 12) (.fad 1 (.t 3)),
      .op (some 13) (.load 1 false (.t 12)),
      .op (some 14) (.bin .neq (.t 11) (.t 13))])
    (.cond (.t 14) (.seq (.reg .reg [.op (some 4) (.mov (.c (.b false)))])
    (.ret))
    (.skip)))
    (.seq (.reg .reg [.op (some 4) (.mov (.c (.b true)))])
    (.ret))))⟩
theorem B_laws_eqItem_ok : checkFn Try.prog Try.f94 B_laws_eqItem.toA = true := by kernel_rfl
theorem B_laws_eqItem_wf : B_laws_eqItem.body.wf = true := by kernel_rfl
theorem okFn_laws_eqItem : okFn Try.prog 94 = true := by kernel_rfl
def F_laws_eqItem (N : Nat) (a0 : DItem) (a1 : DItem) : Option Bool :=
  bif (!ieq a0.1 a1.1) then
    some false
  else
    bif (!decide (a0.2 = a1.2)) then
      some false
    else
      some true
theorem F_laws_eqItem_run (N : Nat) (a0 : DItem) (a1 : DItem) :
    runF (O_laws_eqItem N) N B_laws_eqItem R_laws_eqItem (vals T_laws_eqItem (a0, a1)) = F_laws_eqItem N a0 a1 := by kernel_rfl
def G_laws_eqItem (a0 : DItem) (a1 : DItem) : Bool :=
  bif (!ieq a0.1 a1.1) then
    false
  else
    bif (!decide (a0.2 = a1.2)) then
      false
    else
      true
theorem FG_laws_eqItem (N : Nat) (a0 : DItem) (a1 : DItem) : F_laws_eqItem N a0 a1 = some (G_laws_eqItem a0 a1) := by
  first | rfl | (simp only [F_laws_eqItem, G_laws_eqItem, cond_some]; done) | (unfold F_laws_eqItem G_laws_eqItem; simp only [cond_some]; done)
def o_laws_eqItem : List V → Bool × V := mkO T_laws_eqItem R_laws_eqItem (fun (x : (DItem × DItem)) => true) (fun (x : (DItem × DItem)) => G_laws_eqItem x.1 x.2)
theorem laws_eqItem_entry : Entry Try.prog 94 o_laws_eqItem := Entry.of fun (x : (DItem × DItem)) _ =>
  Pf.of_run hm Try.func94 okFn_laws_eqItem B_laws_eqItem_ok B_laws_eqItem_wf (O_laws_eqItem_ok 0) rfl ((F_laws_eqItem_run 0 x.1 x.2).trans (FG_laws_eqItem 0 x.1 x.2))
/-! loop.example/g00526/laws.eqItemS -/
abbrev T_laws_eqItemS : List GT := [(.sl tItem), (.sl tItem)]
abbrev R_laws_eqItemS : List GT := [.b]
def fin_laws_eqItemS : Fr2 → Hp → Option Bool := finF R_laws_eqItemS [.t 4]
def O_laws_eqItemS (N : Nat) : Orac := orc [(94, o_laws_eqItem)] []
theorem O_laws_eqItemS_ok (N : Nat) : OrcOk Try.prog (O_laws_eqItemS N) := OrcOk.of ⟨laws_eqItem_entry, trivial⟩ trivial
def c_laws_eqItemS_1 : C2 :=
    .seq (.seq (.reg .reg [.op (some 11) (.mov (.t 5)),
      .op (some 12) (.mov (.t 0)),
      .op (some 13) (.len false (.t 12)),
      .op (some 14) (.bin .lss (.t 11) (.t 13))])
    (.cond (.t 14) (.skip)
    (.exit 0)))
    (.seq (.block 1 (.seq (.reg (.dlin 8 2) [.op (some 17) (.mov (.t 0)),
      .op (some 18) (.mov (.t 5)),
      .op (some 19) (.iad 2 (.t 17) (.t 18)),
      .op (some 20) (.load 2 true (.t 19)),
      .op (some 21) (.mov (.t 1)),
      .op (some 22) (.mov (.t 5)),
      .op (some 23) (.iad 2 (.t 21) (.t 22)),
      .op (some 24) (.load 2 true (.t 23)),
      .op (some 25) (.call (.c (.f 94 [])) [.t 20, .t 24]),
      .op (some 26) (.un .not (.t 25))])
    (.cond (.t 26) (.seq (.reg .reg [.op (some 4) (.mov (.c (.b false)))])
    (.ret))
    (.skip))))
    (.reg .reg [.op (some 15) (.mov (.t 5)),
      .op (some 16) (.bin .add (.t 15) (.c (.n .i64 1))),
      .op (some 5) (.mov (.t 16))]))
def c_laws_eqItemS_2 : C2 :=
    .seq (.reg .reg [.op (some 4) (.mov (.c (.b true)))])
    (.ret)
def τ_laws_eqItemS : Nat → Option GT := fun _ => none
def B_laws_eqItemS : F2 := ⟨27, 2, [.t 4], τ_laws_eqItemS,
    .seq (.reg .reg [.op (some 4) (.mov (.c (.b false)))])
    (.seq (.seq (.reg .reg [.op (some 6) (.mov (.t 0)),
      .op (some 7) (.len false (.t 6)),
      .op (some 8) (.mov (.t 1)),
      .op (some 9) (.len false (.t 8)),
      .op (some 10) (.bin .neq (.t 7) (.t 9))])
    (.cond (.t 10) (.seq (.reg .reg [.op (some 4) (.mov (.c (.b false)))])
    (.ret))
    (.skip)))
    (.seq (.seq (.reg .reg [.op (some 5) (.mov (.c (.n .i64 0)))])
    (.block 0 (.loop [0, 1, 5] [] [] c_laws_eqItemS_1)))
    (c_laws_eqItemS_2)))⟩
theorem B_laws_eqItemS_ok : checkFn Try.prog Try.f50 B_laws_eqItemS.toA = true := by kernel_rfl
theorem B_laws_eqItemS_wf : B_laws_eqItemS.body.wf = true := by kernel_rfl
theorem okFn_laws_eqItemS : okFn Try.prog 50 = true := by kernel_rfl
def laws_eqItemS_l1s (r0 : Int → Option Bool) (k0_0 : Option Bool) (N : Nat) (a0 : List DItem) (a1 : List DItem) (v5_1 : Int) : Option Bool :=
  bif (ilt v5_1 ((a0.length) : Int)) then
    let x1 : DItem := (a0.getD (v5_1.toNat) dItem)
    let x2 : DItem := (a1.getD (v5_1.toNat) dItem)
    chk (inb v5_1 (a0.length)) <|
    chk (inb v5_1 (a1.length)) <|
    bif (!(G_laws_eqItem x1 x2)) then
      some false
    else
      r0 (w64 (v5_1 + (1 : Int)))
  else
    k0_0
theorem laws_eqItemS_l1s_run (N : Nat) (C0 : Fr2 → Hp → Option Bool) (K0 : Option Nat → Fr2 → Hp → Option Bool) (a0 : List DItem) (a1 : List DItem) (v5_1 : Int) :
    rcode (O_laws_eqItemS N) τ_laws_eqItemS N fin_laws_eqItemS c_laws_eqItemS_1 [(0, .q tItem a0), (1, .q tItem a1), (5, .n .i64 v5_1)] ⟨1, []⟩ (roundK [0, 1, 5] [] [] C0 K0) = laws_eqItemS_l1s (fun v5_1 => C0 [(0, .q tItem a0), (1, .q tItem a1), (5, .n .i64 v5_1)] ⟨1, []⟩) (K0 (some 0) [] ⟨1, []⟩) N a0 a1 v5_1 := by kernel_rfl
def laws_eqItemS_x1_0 (N : Nat) : Option Bool :=
  some true
theorem laws_eqItemS_x1_0_run (N : Nat)  :
    (blockK 0 (seqK' (fun fr H K => rcode (O_laws_eqItemS N) τ_laws_eqItemS N fin_laws_eqItemS c_laws_eqItemS_2 fr H K) (finK R_laws_eqItemS [.t 4]))) (some 0) [] ⟨1, []⟩ = laws_eqItemS_x1_0 N := by kernel_rfl
def laws_eqItemS_l1 (k0_0 : Option Bool) (N : Nat) (a0 : List DItem) (a1 : List DItem) : Nat → Int → Option Bool
  | 0, _ => none
  | n + 1, v5_1 => laws_eqItemS_l1s (laws_eqItemS_l1 k0_0 N a0 a1 n) k0_0 N a0 a1 v5_1
def laws_eqItemS_h1 (N : Nat) (a0 : List DItem) (a1 : List DItem) (v5_1 : Int) : Option Bool :=
  laws_eqItemS_l1 (laws_eqItemS_x1_0 N) N a0 a1 N v5_1
theorem laws_eqItemS_l1_run (N : Nat)  (K : Option Nat → Fr2 → Hp → Option Bool) (a0 : List DItem) (a1 : List DItem) : ∀ (n : Nat) (v5_1 : Int),
    rloop (fun fr H K => rcode (O_laws_eqItemS N) τ_laws_eqItemS N fin_laws_eqItemS c_laws_eqItemS_1 fr H K) [0, 1, 5] [] [] K n [(0, .q tItem a0), (1, .q tItem a1), (5, .n .i64 v5_1)] ⟨1, []⟩ = laws_eqItemS_l1 (K (some 0) [] ⟨1, []⟩) N a0 a1 n v5_1 := by
  intro n
  induction n with
  | zero => intro v5_1; kernel_rfl
  | succ n ih => intro v5_1; exact (laws_eqItemS_l1s_run N (rloop (fun fr H K => rcode (O_laws_eqItemS N) τ_laws_eqItemS N fin_laws_eqItemS c_laws_eqItemS_1 fr H K) [0, 1, 5] [] [] K n) K a0 a1 v5_1).trans (congrArg (fun r => laws_eqItemS_l1s r (K (some 0) [] ⟨1, []⟩) N a0 a1 v5_1) (funext fun v5_1 => ih v5_1))
theorem laws_eqItemS_h1_run (N : Nat) (a0 : List DItem) (a1 : List DItem) (v5_1 : Int) : rloop (fun fr H K => rcode (O_laws_eqItemS N) τ_laws_eqItemS N fin_laws_eqItemS c_laws_eqItemS_1 fr H K) [0, 1, 5] [] [] (blockK 0 (seqK' (fun fr H K => rcode (O_laws_eqItemS N) τ_laws_eqItemS N fin_laws_eqItemS c_laws_eqItemS_2 fr H K) (finK R_laws_eqItemS [.t 4]))) N [(0, .q tItem a0), (1, .q tItem a1), (5, .n .i64 v5_1)] ⟨1, []⟩ = laws_eqItemS_h1 N a0 a1 v5_1 :=
  ((laws_eqItemS_l1_run N (blockK 0 (seqK' (fun fr H K => rcode (O_laws_eqItemS N) τ_laws_eqItemS N fin_laws_eqItemS c_laws_eqItemS_2 fr H K) (finK R_laws_eqItemS [.t 4]))) a0 a1 N v5_1)).trans (congrArg (fun h => laws_eqItemS_l1 h N a0 a1 N v5_1) (laws_eqItemS_x1_0_run N ))
def F_laws_eqItemSR (N : Nat) (laws_eqItemS_h1 : List DItem → List DItem → Int → Option Bool) (a0 : List DItem) (a1 : List DItem) : Option Bool :=
  bif (!ieq ((a0.length) : Int) ((a1.length) : Int)) then
    some false
  else
    laws_eqItemS_h1 a0 a1 (0 : Int)
def F_laws_eqItemS (N : Nat) (a0 : List DItem) (a1 : List DItem) : Option Bool := F_laws_eqItemSR N (laws_eqItemS_h1 N) a0 a1
theorem F_laws_eqItemS_raw (N : Nat) (a0 : List DItem) (a1 : List DItem) :
    runF (O_laws_eqItemS N) N B_laws_eqItemS R_laws_eqItemS (vals T_laws_eqItemS (a0, a1)) = F_laws_eqItemSR N (fun a0 a1 v5_1 => rloop (fun fr H K => rcode (O_laws_eqItemS N) τ_laws_eqItemS N fin_laws_eqItemS c_laws_eqItemS_1 fr H K) [0, 1, 5] [] [] (blockK 0 (seqK' (fun fr H K => rcode (O_laws_eqItemS N) τ_laws_eqItemS N fin_laws_eqItemS c_laws_eqItemS_2 fr H K) (finK R_laws_eqItemS [.t 4]))) N [(0, .q tItem a0), (1, .q tItem a1), (5, .n .i64 v5_1)] ⟨1, []⟩) a0 a1 := by kernel_rfl
theorem F_laws_eqItemS_run (N : Nat) (a0 : List DItem) (a1 : List DItem) :
    runF (O_laws_eqItemS N) N B_laws_eqItemS R_laws_eqItemS (vals T_laws_eqItemS (a0, a1)) = F_laws_eqItemS N a0 a1 :=
  (F_laws_eqItemS_raw N a0 a1).trans (congrArg (fun h => F_laws_eqItemSR N h a0 a1) (funext fun a0 => funext fun a1 => funext fun v5_1 => laws_eqItemS_h1_run N a0 a1 v5_1))
def P_laws_eqItemS (N : Nat) (a0 : List DItem) (a1 : List DItem) : Bool := (F_laws_eqItemS N a0 a1).isSome
def G_laws_eqItemS (N : Nat) (a0 : List DItem) (a1 : List DItem) : Bool := (F_laws_eqItemS N a0 a1).getD false
theorem FG_laws_eqItemS {N : Nat} (a0 : List DItem) (a1 : List DItem) (h : P_laws_eqItemS N a0 a1 = true) : F_laws_eqItemS N a0 a1 = some (G_laws_eqItemS N a0 a1) := some_of_isSome h
theorem PG_laws_eqItemS {N : Nat} {a0 : List DItem} {a1 : List DItem} {v : Bool} (h : F_laws_eqItemS N a0 a1 = some v) : P_laws_eqItemS N a0 a1 = true ∧ G_laws_eqItemS N a0 a1 = v := by unfold P_laws_eqItemS G_laws_eqItemS; rw [h]; exact ⟨rfl, rfl⟩
def o_laws_eqItemS (N : Nat) : List V → Bool × V := mkO T_laws_eqItemS R_laws_eqItemS (fun (x : (List DItem × List DItem)) => P_laws_eqItemS N x.1 x.2) (fun (x : (List DItem × List DItem)) => G_laws_eqItemS N x.1 x.2)
theorem laws_eqItemS_entry (N : Nat) : Entry Try.prog 50 (o_laws_eqItemS N) := Entry.of fun (x : (List DItem × List DItem)) h =>
  Pf.of_run hm Try.func50 okFn_laws_eqItemS B_laws_eqItemS_ok B_laws_eqItemS_wf (O_laws_eqItemS_ok N) rfl ((F_laws_eqItemS_run N x.1 x.2).trans (FG_laws_eqItemS x.1 x.2 h))
/-! loop.example/g00526/laws.eqLetter -/
abbrev T_laws_eqLetter : List GT := [tLetter, tLetter]
abbrev R_laws_eqLetter : List GT := [.b]
def fin_laws_eqLetter : Fr2 → Hp → Option Bool := finF R_laws_eqLetter [.t 4]
def O_laws_eqLetter (N : Nat) : Orac := orc [(50, o_laws_eqItemS N)] []
theorem O_laws_eqLetter_ok (N : Nat) : OrcOk Try.prog (O_laws_eqLetter N) := OrcOk.of ⟨laws_eqItemS_entry N, trivial⟩ trivial
def τ_laws_eqLetter : Nat → Option GT := fun _ => none
def B_laws_eqLetter : F2 := ⟨51, 2, [.t 4], τ_laws_eqLetter,
    .seq (.reg .reg [.op (some 2) (.box (.t 0)),
      .op (some 3) (.box (.t 1)),
      .op (some 4) (.mov (.c (.b false)))])
    (.seq (.seq (.reg .reg [.op (some 5) (.fad 0 (.t 2)),
      .op (some 6) (.load 1 false (.t 5)),
      .op (some 7) (.fad 0 (.t 3)),
      .op (some 8) (.load 1 false (.t 7)),
      .op (some 9) (.bin .neq (.t 6) (.t 8))])
    (.cond (.t 9) (.seq (.reg .reg [.op (some 4) (.mov (.c (.b false)))])
    (.ret))
    (.skip)))
    (.seq (.seq (.reg .reg [.op (some 10) (.fad 1 (.t 2)),
      .op (some 11) (.load 1 false (.t 10)),
      .op (some 12) (.fad 1 (.t 3)),
      .op (some 13) (.load 1 false (.t 12)),
      .op (some 14) (.bin .neq (.t 11) (.t 13))])
    (.cond (.t 14) (.seq (.reg .reg [.op (some 4) (.mov (.c (.b false)))])
    (.ret))
    (.skip)))
    (.seq (.seq (.reg .reg [.op (some 15) (.fad 2 (.t 2)),
      .op (some 16) (.load 1 false (.t 15)),
      .op (some 17) (.fad 2 (.t 3)),
      .op (some 18) (.load 1 false (.t 17)),
      .op (some 19) (.bin .neq (.t 16) (.t 18))])
    (.cond (.t 19) (.seq (.reg .reg [.op (some 4) (.mov (.c (.b false)))])
    (.ret))
    (.skip)))
    (.seq (.seq (.reg .reg [.op (some 20) (.fad 3 (.t 2)),
      .op (some 21) (.load 1 false (.t 20)),
      .op (some 22) (.fad 3 (.t 3)),
      .op (some 23) (.load 1 false (.t 22)),
      .op (some 24) (.bin .neq (.t 21) (.t 23))])
    (.cond (.t 24) (.seq (.reg .reg [.op (some 4) (.mov (.c (.b false)))])
    (.ret))
    (.skip)))
    (.seq (.seq (.reg .reg [.op (some 25) (.fad 4 (.t 2)),
      .op (some 26) (.load 1 false (.t 25)),
      .op (some 27) (.fad 4 (.t 3)),
      .op (some 28) (.load 1 false (.t 27)),
      .op (some 29) (.bin .neq (.t 26) (.t 28))])
    (.cond (.t 29) (.seq (.reg .reg [.op (some 4) (.mov (.c (.b false)))])
    (.ret))
    (.skip)))
    (.seq (.seq (.reg .reg [.op (some 30) (.fad 5 (.t 2)),
      .op (some 31) (.load 1 false (.t 30)),
      .op (some 32) (.fad 5 (.t 3)),
      .op (some 33) (.load 1 false (.t 32)),
      .op (some 34) (.bin .neq (.t 31) (.t 33))])
    (.cond (.t 34) (.seq (.reg .reg [.op (some 4) (.mov (.c (.b false)))])
    (.ret))
    (.skip)))
    (.seq (.seq (.reg .reg [.op (some 35) (.fad 6 (.t 2)),
      .op (some 36) (.load 1 false (.t 35)),
      .op (some 37) (.fad 6 (.t 3)),
      .op (some 38) (.load 1 false (.t 37)),
      .op (some 39) (.call (.c (.f 50 [])) [.t 36, .t 38]),
      .op (some 40) (.un .not (.t 39))])
    (.cond (.t 40) (.seq (.reg .reg [.op (some 4) (.mov (.c (.b false)))])
    (.ret))
    (.skip)))
    (.seq (.seq (.reg .reg [.op (some 41) (.fad 7 (.t 2)),
      .op (some 42) (.load 1 false (.t 41)),
      .op (some 43) (.fad 7 (.t 3)),
      .op (some 44) (.load 1 false (.t 43)),
      .op (some 45) (.bin .neq (.t 42) (.t 44))])
    (.cond (.t 45) (.seq (.reg .reg [.op (some 4) (.mov (.c (.b false)))])
    (.ret))
    (.skip)))
    (.seq (.seq (.reg .reg [.op (some 46) (.fad 8 (.t 2)),
      .op (some 47) (.load 1 false (.t 46)),
      .op (some 48) (.fad 8 (.t 3)),
      .op (some 49) (.load 1 false (.t 48)),
      .op (some 50) (.beq true (.t 47) (.t 49))])
    (.cond (.t 50) (.seq (.reg .reg [.op (some 4) (.mov (.c (.b false)))])
    (.ret))
    (.skip)))
    (.seq (.reg .reg [.op (some 4) (.mov (.c (.b true)))])
    (.ret)))))))))))⟩
theorem B_laws_eqLetter_ok : checkFn Try.prog Try.f32 B_laws_eqLetter.toA = true := by kernel_rfl
theorem B_laws_eqLetter_wf : B_laws_eqLetter.body.wf = true := by kernel_rfl
theorem okFn_laws_eqLetter : okFn Try.prog 32 = true := by kernel_rfl
def F_laws_eqLetter (N : Nat) (a0 : DLetter) (a1 : DLetter) : Option Bool :=
  bif (!ieq a0.1 a1.1) then
    some false
  else
    bif (!ieq a0.2.1 a1.2.1) then
      some false
    else
      bif (!ieq a0.2.2.1 a1.2.2.1) then
        some false
      else
        bif (!ieq a0.2.2.2.1 a1.2.2.2.1) then
          some false
        else
          bif (!ieq a0.2.2.2.2.1 a1.2.2.2.2.1) then
            some false
          else
            bif (!ieq a0.2.2.2.2.2.1 a1.2.2.2.2.2.1) then
              some false
            else
              chk (P_laws_eqItemS N a0.2.2.2.2.2.2.1 a1.2.2.2.2.2.2.1) <|
              bif (!(G_laws_eqItemS N a0.2.2.2.2.2.2.1 a1.2.2.2.2.2.2.1)) then
                some false
              else
                bif (!ieq a0.2.2.2.2.2.2.2.1 a1.2.2.2.2.2.2.2.1) then
                  some false
                else
                  bif (!(a0.2.2.2.2.2.2.2.2 == a1.2.2.2.2.2.2.2.2)) then
                    some false
                  else
                    some true
theorem F_laws_eqLetter_run (N : Nat) (a0 : DLetter) (a1 : DLetter) :
    runF (O_laws_eqLetter N) N B_laws_eqLetter R_laws_eqLetter (vals T_laws_eqLetter (a0, a1)) = F_laws_eqLetter N a0 a1 := by kernel_rfl
def P_laws_eqLetter (N : Nat) (a0 : DLetter) (a1 : DLetter) : Bool := (F_laws_eqLetter N a0 a1).isSome
def G_laws_eqLetter (N : Nat) (a0 : DLetter) (a1 : DLetter) : Bool := (F_laws_eqLetter N a0 a1).getD false
theorem FG_laws_eqLetter {N : Nat} (a0 : DLetter) (a1 : DLetter) (h : P_laws_eqLetter N a0 a1 = true) : F_laws_eqLetter N a0 a1 = some (G_laws_eqLetter N a0 a1) := some_of_isSome h
theorem PG_laws_eqLetter {N : Nat} {a0 : DLetter} {a1 : DLetter} {v : Bool} (h : F_laws_eqLetter N a0 a1 = some v) : P_laws_eqLetter N a0 a1 = true ∧ G_laws_eqLetter N a0 a1 = v := by unfold P_laws_eqLetter G_laws_eqLetter; rw [h]; exact ⟨rfl, rfl⟩
def o_laws_eqLetter (N : Nat) : List V → Bool × V := mkO T_laws_eqLetter R_laws_eqLetter (fun (x : (DLetter × DLetter)) => P_laws_eqLetter N x.1 x.2) (fun (x : (DLetter × DLetter)) => G_laws_eqLetter N x.1 x.2)
theorem laws_eqLetter_entry (N : Nat) : Entry Try.prog 32 (o_laws_eqLetter N) := Entry.of fun (x : (DLetter × DLetter)) h =>
  Pf.of_run hm Try.func32 okFn_laws_eqLetter B_laws_eqLetter_ok B_laws_eqLetter_wf (O_laws_eqLetter_ok N) rfl ((F_laws_eqLetter_run N x.1 x.2).trans (FG_laws_eqLetter x.1 x.2 h))
/-! loop.example/g00526/laws.FnExactLetterOk -/
abbrev T_laws_FnExactLetterOk : List GT := [tLetter]
abbrev R_laws_FnExactLetterOk : List GT := [.b]
def fin_laws_FnExactLetterOk : Fr2 → Hp → Option Bool := finF R_laws_FnExactLetterOk [.t 2]
def O_laws_FnExactLetterOk (N : Nat) : Orac := orc [(28, o_laws_szLetter N), (30, o_laws_toLetter N), (29, o_spec_LetterOk N), (31, o_impl_LetterOk N), (32, o_laws_eqLetter N)] []
theorem O_laws_FnExactLetterOk_ok (N : Nat) : OrcOk Try.prog (O_laws_FnExactLetterOk N) := OrcOk.of ⟨laws_szLetter_entry N, laws_toLetter_entry N, spec_LetterOk_entry N, impl_LetterOk_entry N, laws_eqLetter_entry N, trivial⟩ trivial
def τ_laws_FnExactLetterOk : Nat → Option GT := fun _ => none
def B_laws_FnExactLetterOk : F2 := ⟨27, 1, [.t 2], τ_laws_FnExactLetterOk,
    .seq (.reg .reg [.op (some 1) (.box (.t 0)),
      .op (some 2) (.mov (.c (.b false)))])
    (.seq (.reg .reg [.op (some 3) (.mov (.c (.n .i64 1048576)))])
    (.seq (.reg .reg [.op (some 7) (.load 9 true (.t 1)),
      .op (some 8) (.mov (.t 3)),
      .op (some 9) (.call (.c (.f 28 [])) [.t 7, .t 8]),
      .op (some 3) (.mov (.t 9))])
    (.seq (.seq (.reg .reg [.op (some 10) (.mov (.t 3)),
      .op (some 11) (.bin .lss (.t 10) (.c (.n .i64 0)))])
    (.cond (.t 11) (.seq (.reg .reg [.op (some 2) (.mov (.c (.b true)))])
    (.ret))
    (.skip)))
    (.seq (.reg .reg [.op (some 12) (.load 9 true (.t 1)),
      .op (some 13) (.call (.c (.f 30 [])) [.t 12]),
      .op (some 14) (.call (.c (.f 29 [])) [.t 13]),
      .op (some 4) (.mov (.t 14))])
    (.seq (.reg .reg [.op (some 15) (.load 9 true (.t 1)),
      .op (some 16) (.call (.c (.f 30 [])) [.t 15]),
      .op (some 5) (.aloc [.n .i64 0, .n .i64 0, .n .i64 0, .n .i64 0, .n .i64 0, .n .i64 0, .l 0 0 0, .n .i64 0, .b false]),
      .op none (.stor 9 (.t 5) (.t 16))])
    (.seq (.reg .reg [.op (some 17) (.load 9 true (.t 5)),
      .op (some 18) (.call (.c (.f 31 [])) [.t 17]),
      .op (some 6) (.mov (.t 18))])
    (.seq (.seq (.reg .reg [.op (some 19) (.mov (.t 6)),
      .op (some 20) (.mov (.t 4)),
      .op (some 21) (.beq true (.t 19) (.t 20))])
    (.cond (.t 21) (.seq (.reg .reg [.op (some 2) (.mov (.c (.b false)))])
    (.ret))
    (.skip)))
    (.seq (.seq (.reg (.dlin 2 3) [.op (some 22) (.load 9 true (.t 5)),
      .op (some 23) (.load 9 true (.t 1)),
      .op (some 24) (.call (.c (.f 30 [])) [.t 23]),
      .op (some 25) (.call (.c (.f 32 [])) [.t 22, .t 24]),
      .op (some 26) (.un .not (.t 25))])
    (.cond (.t 26) (.seq (.reg .reg [.op (some 2) (.mov (.c (.b false)))])
    (.ret))
    (.skip)))
    (.seq (.reg .reg [.op (some 2) (.mov (.c (.b true)))])
    (.ret))))))))))⟩
theorem B_laws_FnExactLetterOk_ok : checkFn Try.prog Try.f6 B_laws_FnExactLetterOk.toA = true := by kernel_rfl
theorem B_laws_FnExactLetterOk_wf : B_laws_FnExactLetterOk.body.wf = true := by kernel_rfl
theorem okFn_laws_FnExactLetterOk : okFn Try.prog 6 = true := by kernel_rfl
def F_laws_FnExactLetterOk (N : Nat) (a0 : DLetter) : Option Bool :=
  chk (P_laws_szLetter N a0 (1048576 : Int)) <|
  bif (ilt (G_laws_szLetter N a0 (1048576 : Int)) (0 : Int)) then
    some true
  else
    let r1 : DLetter := (G_laws_toLetter N a0)
    chk (P_laws_toLetter N a0) <|
    chk (P_spec_LetterOk N r1) <|
    let r2 : DLetter := (G_laws_toLetter N a0)
    chk (P_laws_toLetter N a0) <|
    chk (P_impl_LetterOk N r2) <|
    bif (!((G_impl_LetterOk N r2) == (G_spec_LetterOk N r1))) then
      some false
    else
      let r3 : DLetter := (G_laws_toLetter N a0)
      chk (P_laws_toLetter N a0) <|
      chk (P_laws_eqLetter N r2 r3) <|
      bif (!(G_laws_eqLetter N r2 r3)) then
        some false
      else
        some true
theorem F_laws_FnExactLetterOk_run (N : Nat) (a0 : DLetter) :
    runF (O_laws_FnExactLetterOk N) N B_laws_FnExactLetterOk R_laws_FnExactLetterOk (vals T_laws_FnExactLetterOk a0) = F_laws_FnExactLetterOk N a0 := by kernel_rfl
def P_laws_FnExactLetterOk (N : Nat) (a0 : DLetter) : Bool := (F_laws_FnExactLetterOk N a0).isSome
def G_laws_FnExactLetterOk (N : Nat) (a0 : DLetter) : Bool := (F_laws_FnExactLetterOk N a0).getD false
theorem FG_laws_FnExactLetterOk {N : Nat} (a0 : DLetter) (h : P_laws_FnExactLetterOk N a0 = true) : F_laws_FnExactLetterOk N a0 = some (G_laws_FnExactLetterOk N a0) := some_of_isSome h
theorem PG_laws_FnExactLetterOk {N : Nat} {a0 : DLetter} {v : Bool} (h : F_laws_FnExactLetterOk N a0 = some v) : P_laws_FnExactLetterOk N a0 = true ∧ G_laws_FnExactLetterOk N a0 = v := by unfold P_laws_FnExactLetterOk G_laws_FnExactLetterOk; rw [h]; exact ⟨rfl, rfl⟩
def o_laws_FnExactLetterOk (N : Nat) : List V → Bool × V := mkO T_laws_FnExactLetterOk R_laws_FnExactLetterOk (fun (x : DLetter) => P_laws_FnExactLetterOk N x) (fun (x : DLetter) => G_laws_FnExactLetterOk N x)
theorem laws_FnExactLetterOk_entry (N : Nat) : Entry Try.prog 6 (o_laws_FnExactLetterOk N) := Entry.of fun (x : DLetter) h =>
  Pf.of_run hm Try.func6 okFn_laws_FnExactLetterOk B_laws_FnExactLetterOk_ok B_laws_FnExactLetterOk_wf (O_laws_FnExactLetterOk_ok N) rfl ((F_laws_FnExactLetterOk_run N x).trans (FG_laws_FnExactLetterOk x h))
end Go.Proofs.Ytfeedfknflbpjaa.AM
