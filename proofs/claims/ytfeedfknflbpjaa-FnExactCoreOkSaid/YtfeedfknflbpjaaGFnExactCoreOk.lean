/- The texts of the functions that the law FnExactCoreOk reaches, what their runs yield, and their contracts. Printed by a program. -/
import Derived.Test.YtfeedfknflbpjaaRh
import Derived.Test.YtfeedfknflbpjaaProg
import Derived.KernelRfl
namespace Go.Proofs.Ytfeedfknflbpjaa.AM
open Go
set_option linter.all false
set_option maxRecDepth 100000
noncomputable section
theorem hm : Try.prog.follows .mixedOrders = true := by kernel_rfl
theorem cond_some {α : Type} (c : Bool) (a b : α) : (bif c then some a else some b) = some (bif c then a else b) := by cases c <;> rfl
theorem some_of_isSome {α : Type} {o : Option α} {d : α} (h : o.isSome = true) : o = some (o.getD d) := by cases o with | none => cases h | some _ => rfl

abbrev tItem : GT := (.st [(.i .i64), .s])
abbrev DItem : Type := (Int × ByteArray)
abbrev dItem : DItem := ((0 : Int), (⟨#[]⟩ : ByteArray))
abbrev tKeeper : GT := (.st [(.i .i64), (.i .i64), (.i .i64), (.sl tItem), (.i .i64), (.i .i64), (.i .i64), (.sl (.i .i64)), (.sl (.i .i64)), .b])
abbrev DKeeper : Type := (Int × Int × Int × List DItem × Int × Int × Int × List Int × List Int × Bool)
abbrev dKeeper : DKeeper := ((0 : Int), (0 : Int), (0 : Int), [], (0 : Int), (0 : Int), (0 : Int), [], [], false)
abbrev tBin : GT := (.st [.s, (.i .i64)])
abbrev DBin : Type := (ByteArray × Int)
abbrev dBin : DBin := ((⟨#[]⟩ : ByteArray), (0 : Int))
abbrev tCore : GT := (.st [(.i .i64), (.sl (.i .i64)), (.sl tBin), (.i .i64), (.i .i64)])
abbrev DCore : Type := (Int × List Int × List DBin × Int × Int)
abbrev dCore : DCore := ((0 : Int), [], [], (0 : Int), (0 : Int))
abbrev tLetter : GT := (.st [(.i .i64), (.i .i64), (.i .i64), (.i .i64), (.i .i64), (.i .i64), (.sl tItem), (.i .i64), .b])
abbrev DLetter : Type := (Int × Int × Int × Int × Int × Int × List DItem × Int × Bool)
abbrev dLetter : DLetter := ((0 : Int), (0 : Int), (0 : Int), (0 : Int), (0 : Int), (0 : Int), [], (0 : Int), false)
abbrev tOrder : GT := (.st [(.i .i64), (.i .i64), (.i .i64), .s, .s, (.i .i64), (.i .i64), (.sl (.i .i64)), .s])
abbrev DOrder : Type := (Int × Int × Int × ByteArray × ByteArray × Int × Int × List Int × ByteArray)
abbrev dOrder : DOrder := ((0 : Int), (0 : Int), (0 : Int), (⟨#[]⟩ : ByteArray), (⟨#[]⟩ : ByteArray), (0 : Int), (0 : Int), [], (⟨#[]⟩ : ByteArray))
abbrev tOp : GT := (.st [(.i .i64), (.i .i64), .s])
abbrev DOp : Type := (Int × Int × ByteArray)
abbrev dOp : DOp := ((0 : Int), (0 : Int), (⟨#[]⟩ : ByteArray))
abbrev tKey : GT := (.st [.s, .s, (.i .i64)])
abbrev DKey : Type := (ByteArray × ByteArray × Int)
abbrev dKey : DKey := ((⟨#[]⟩ : ByteArray), (⟨#[]⟩ : ByteArray), (0 : Int))
abbrev tCell : GT := (.st [tKey, (.i .i64), .b])
abbrev DCell : Type := (DKey × Int × Bool)
abbrev dCell : DCell := (dKey, (0 : Int), false)
abbrev tBarn : GT := (.st [(.sl tCell), (.sl (.sl tCell))])
abbrev DBarn : Type := (List DCell × List (List DCell))
abbrev dBarn : DBarn := ([], [])
abbrev tLore : GT := (.st [.s, (.sl .s)])
abbrev DLore : Type := (ByteArray × List ByteArray)
abbrev dLore : DLore := ((⟨#[]⟩ : ByteArray), [])
abbrev tReply : GT := (.st [(.i .i64), (.i .i64)])
abbrev DReply : Type := (Int × Int)
abbrev dReply : DReply := ((0 : Int), (0 : Int))
abbrev tSeen : GT := (.st [(.i .i64), tReply])
abbrev DSeen : Type := (Int × DReply)
abbrev dSeen : DSeen := ((0 : Int), dReply)
abbrev tBook : GT := (.st [tBarn, (.sl tLore), (.sl tSeen), (.i .i64)])
abbrev DBook : Type := (DBarn × List DLore × List DSeen × Int)
abbrev dBook : DBook := (dBarn, [], [], (0 : Int))
/-! loop.example/g00526/laws.szInt64S -/
abbrev T_laws_szInt64S : List GT := [(.sl (.i .i64)), (.i .i64)]
abbrev R_laws_szInt64S : List GT := [(.i .i64)]
def fin_laws_szInt64S : Fr2 → Hp → Option Int := finF R_laws_szInt64S [.t 4]
def O_laws_szInt64S (N : Nat) : Orac := orc [] []
theorem O_laws_szInt64S_ok (N : Nat) : OrcOk Try.prog (O_laws_szInt64S N) := OrcOk.of trivial trivial
def τ_laws_szInt64S : Nat → Option GT := fun _ => none
def B_laws_szInt64S : F2 := ⟨12, 2, [.t 4], τ_laws_szInt64S,
    .seq (.reg .reg [.op (some 4) (.mov (.c (.n .i64 0)))])
    (.seq (.reg .reg [.op (some 5) (.mov (.t 1)),
      .op (some 6) (.mov (.t 0)),
      .op (some 7) (.len false (.t 6)),
      .op (some 8) (.bin .sub (.t 5) (.t 7)),
      .op (some 1) (.mov (.t 8))])
    (.seq (.seq (.reg .reg [.op (some 9) (.mov (.t 1)),
      .op (some 10) (.bin .lss (.t 9) (.c (.n .i64 0)))])
    (.cond (.t 10) (.seq (.reg .reg [.op (some 4) (.mov (.c (.n .i64 (-1))))])
    (.ret))
    (.skip)))
    (.seq (.reg .reg [.op (some 11) (.mov (.t 1)),
      .op (some 4) (.mov (.t 11))])
    (.ret))))⟩
theorem B_laws_szInt64S_ok : checkFn Try.prog Try.f56 B_laws_szInt64S.toA = true := by kernel_rfl
theorem B_laws_szInt64S_wf : B_laws_szInt64S.body.wf = true := by kernel_rfl
theorem okFn_laws_szInt64S : okFn Try.prog 56 = true := by kernel_rfl
def F_laws_szInt64S (N : Nat) (a0 : List Int) (a1 : Int) : Option Int :=
  bif (ilt (w64 (a1 - ((a0.length) : Int))) (0 : Int)) then
    some (-1 : Int)
  else
    some (w64 (a1 - ((a0.length) : Int)))
theorem F_laws_szInt64S_run (N : Nat) (a0 : List Int) (a1 : Int) :
    runF (O_laws_szInt64S N) N B_laws_szInt64S R_laws_szInt64S (vals T_laws_szInt64S (a0, a1)) = F_laws_szInt64S N a0 a1 := by kernel_rfl
def G_laws_szInt64S (a0 : List Int) (a1 : Int) : Int :=
  bif (ilt (w64 (a1 - ((a0.length) : Int))) (0 : Int)) then
    (-1 : Int)
  else
    (w64 (a1 - ((a0.length) : Int)))
theorem FG_laws_szInt64S (N : Nat) (a0 : List Int) (a1 : Int) : F_laws_szInt64S N a0 a1 = some (G_laws_szInt64S a0 a1) := by
  first | rfl | (simp only [F_laws_szInt64S, G_laws_szInt64S, cond_some]; done) | (unfold F_laws_szInt64S G_laws_szInt64S; simp only [cond_some]; done)
def o_laws_szInt64S : List V → Bool × V := mkO T_laws_szInt64S R_laws_szInt64S (fun (x : (List Int × Int)) => true) (fun (x : (List Int × Int)) => G_laws_szInt64S x.1 x.2)
theorem laws_szInt64S_entry : Entry Try.prog 56 o_laws_szInt64S := Entry.of fun (x : (List Int × Int)) _ =>
  Pf.of_run hm Try.func56 okFn_laws_szInt64S B_laws_szInt64S_ok B_laws_szInt64S_wf (O_laws_szInt64S_ok 0) rfl ((F_laws_szInt64S_run 0 x.1 x.2).trans (FG_laws_szInt64S 0 x.1 x.2))
/-! loop.example/g00526/laws.szBin -/
abbrev T_laws_szBin : List GT := [tBin, (.i .i64)]
abbrev R_laws_szBin : List GT := [(.i .i64)]
def fin_laws_szBin : Fr2 → Hp → Option Int := finF R_laws_szBin [.t 4]
def O_laws_szBin (N : Nat) : Orac := orc [] []
theorem O_laws_szBin_ok (N : Nat) : OrcOk Try.prog (O_laws_szBin N) := OrcOk.of trivial trivial
def τ_laws_szBin : Nat → Option GT := fun _ => none
def B_laws_szBin : F2 := ⟨13, 2, [.t 4], τ_laws_szBin,
    .seq (.reg .reg [.op (some 2) (.box (.t 0)),
      .op (some 4) (.mov (.c (.n .i64 0)))])
    (.seq (.reg .reg [.op (some 5) (.mov (.t 1)),
      .op (some 6) (.fad 0 (.t 2)),
      .op (some 7) (.load 1 false (.t 6)),
      .op (some 8) (.len true (.t 7)),
      .op (some 9) (.bin .sub (.t 5) (.t 8)),
      .op (some 1) (.mov (.t 9))])
    (.seq (.seq (.reg .reg [.op (some 10) (.mov (.t 1)),
      .op (some 11) (.bin .lss (.t 10) (.c (.n .i64 0)))])
    (.cond (.t 11) (.seq (.reg .reg [.op (some 4) (.mov (.c (.n .i64 (-1))))])
    (.ret))
    (.skip)))
    (.seq (.reg .reg [.op (some 12) (.mov (.t 1)),
      .op (some 4) (.mov (.t 12))])
    (.ret))))⟩
theorem B_laws_szBin_ok : checkFn Try.prog Try.f63 B_laws_szBin.toA = true := by kernel_rfl
theorem B_laws_szBin_wf : B_laws_szBin.body.wf = true := by kernel_rfl
theorem okFn_laws_szBin : okFn Try.prog 63 = true := by kernel_rfl
def F_laws_szBin (N : Nat) (a0 : DBin) (a1 : Int) : Option Int :=
  bif (ilt (w64 (a1 - (a0.1.size : Int))) (0 : Int)) then
    some (-1 : Int)
  else
    some (w64 (a1 - (a0.1.size : Int)))
theorem F_laws_szBin_run (N : Nat) (a0 : DBin) (a1 : Int) :
    runF (O_laws_szBin N) N B_laws_szBin R_laws_szBin (vals T_laws_szBin (a0, a1)) = F_laws_szBin N a0 a1 := by kernel_rfl
def G_laws_szBin (a0 : DBin) (a1 : Int) : Int :=
  bif (ilt (w64 (a1 - (a0.1.size : Int))) (0 : Int)) then
    (-1 : Int)
  else
    (w64 (a1 - (a0.1.size : Int)))
theorem FG_laws_szBin (N : Nat) (a0 : DBin) (a1 : Int) : F_laws_szBin N a0 a1 = some (G_laws_szBin a0 a1) := by
  first | rfl | (simp only [F_laws_szBin, G_laws_szBin, cond_some]; done) | (unfold F_laws_szBin G_laws_szBin; simp only [cond_some]; done)
def o_laws_szBin : List V → Bool × V := mkO T_laws_szBin R_laws_szBin (fun (x : (DBin × Int)) => true) (fun (x : (DBin × Int)) => G_laws_szBin x.1 x.2)
theorem laws_szBin_entry : Entry Try.prog 63 o_laws_szBin := Entry.of fun (x : (DBin × Int)) _ =>
  Pf.of_run hm Try.func63 okFn_laws_szBin B_laws_szBin_ok B_laws_szBin_wf (O_laws_szBin_ok 0) rfl ((F_laws_szBin_run 0 x.1 x.2).trans (FG_laws_szBin 0 x.1 x.2))
/-! loop.example/g00526/laws.szBinS -/
abbrev T_laws_szBinS : List GT := [(.sl tBin), (.i .i64)]
abbrev R_laws_szBinS : List GT := [(.i .i64)]
def fin_laws_szBinS : Fr2 → Hp → Option Int := finF R_laws_szBinS [.t 4]
def O_laws_szBinS (N : Nat) : Orac := orc [(63, o_laws_szBin)] []
theorem O_laws_szBinS_ok (N : Nat) : OrcOk Try.prog (O_laws_szBinS N) := OrcOk.of ⟨laws_szBin_entry, trivial⟩ trivial
def c_laws_szBinS_1 : C2 :=
    .seq (.seq (.reg .reg [.op (some 12) (.mov (.t 5)),
      .op (some 13) (.mov (.t 0)),
      .op (some 14) (.len false (.t 13)),
      .op (some 15) (.bin .lss (.t 12) (.t 14))])
    (.cond (.t 15) (.skip)
    (.exit 0)))
    (.seq (.block 1 (.seq (.reg .reg [.op (some 18) (.mov (.t 0)),
      .op (some 19) (.mov (.t 5)),
      .op (some 20) (.iad 2 (.t 18) (.t 19)),
      .op (some 21) (.load 2 true (.t 20)),
      .op (some 22) (.mov (.t 1)),
      .op (some 23) (.call (.c (.f 63 [])) [.t 21, .t 22]),
      .op (some 1) (.mov (.t 23))])
    (.seq (.reg .reg [.op (some 24) (.mov (.t 1)),
      .op (some 25) (.bin .lss (.t 24) (.c (.n .i64 0)))])
    (.cond (.t 25) (.seq (.reg .reg [.op (some 4) (.mov (.c (.n .i64 (-1))))])
    (.ret))
    (.skip)))))
    (.reg .reg [.op (some 16) (.mov (.t 5)),
      .op (some 17) (.bin .add (.t 16) (.c (.n .i64 1))),
      .op (some 5) (.mov (.t 17))]))
def c_laws_szBinS_2 : C2 :=
    .seq (.reg .reg [.op (some 26) (.mov (.t 1)),
      .op (some 4) (.mov (.t 26))])
    (.ret)
def τ_laws_szBinS : Nat → Option GT := fun _ => none
def B_laws_szBinS : F2 := ⟨27, 2, [.t 4], τ_laws_szBinS,
    .seq (.reg .reg [.op (some 4) (.mov (.c (.n .i64 0)))])
    (.seq (.reg .reg [.op (some 6) (.mov (.t 1)),
      .op (some 7) (.mov (.t 0)),
      .op (some 8) (.len false (.t 7)),
      .op (some 9) (.bin .sub (.t 6) (.t 8)),
      .op (some 1) (.mov (.t 9))])
    (.seq (.seq (.reg .reg [.op (some 10) (.mov (.t 1)),
      .op (some 11) (.bin .lss (.t 10) (.c (.n .i64 0)))])
    (.cond (.t 11) (.seq (.reg .reg [.op (some 4) (.mov (.c (.n .i64 (-1))))])
    (.ret))
    (.skip)))
    (.seq (.seq (.reg .reg [.op (some 5) (.mov (.c (.n .i64 0)))])
    (.block 0 (.loop [0, 1, 5] [] [1] c_laws_szBinS_1)))
    (c_laws_szBinS_2))))⟩
theorem B_laws_szBinS_ok : checkFn Try.prog Try.f20 B_laws_szBinS.toA = true := by kernel_rfl
theorem B_laws_szBinS_wf : B_laws_szBinS.body.wf = true := by kernel_rfl
theorem okFn_laws_szBinS : okFn Try.prog 20 = true := by kernel_rfl
def laws_szBinS_l1s (r0 : Int → Int → Option Int) (k0_0 : Int → Option Int) (N : Nat) (a0 : List DBin) (v1_1 : Int) (v5_1 : Int) : Option Int :=
  bif (ilt v5_1 ((a0.length) : Int)) then
    let x1 : DBin := (a0.getD (v5_1.toNat) dBin)
    chk (inb v5_1 (a0.length)) <|
    bif (ilt (G_laws_szBin x1 v1_1) (0 : Int)) then
      some (-1 : Int)
    else
      r0 (G_laws_szBin x1 v1_1) (w64 (v5_1 + (1 : Int)))
  else
    k0_0 v1_1
theorem laws_szBinS_l1s_run (N : Nat) (C0 : Fr2 → Hp → Option Int) (K0 : Option Nat → Fr2 → Hp → Option Int) (a0 : List DBin) (v1_1 : Int) (v5_1 : Int) :
    rcode (O_laws_szBinS N) τ_laws_szBinS N fin_laws_szBinS c_laws_szBinS_1 [(0, .q tBin a0), (1, .n .i64 v1_1), (5, .n .i64 v5_1)] ⟨1, []⟩ (roundK [0, 1, 5] [] [1] C0 K0) = laws_szBinS_l1s (fun v1_1 v5_1 => C0 [(0, .q tBin a0), (1, .n .i64 v1_1), (5, .n .i64 v5_1)] ⟨1, []⟩) (fun ev1_1 => K0 (some 0) [(1, .n .i64 ev1_1)] ⟨1, []⟩) N a0 v1_1 v5_1 := by kernel_rfl
def laws_szBinS_x1_0 (N : Nat) (ev1_1 : Int) : Option Int :=
  some ev1_1
theorem laws_szBinS_x1_0_run (N : Nat) (ev1_1 : Int) :
    (blockK 0 (seqK' (fun fr H K => rcode (O_laws_szBinS N) τ_laws_szBinS N fin_laws_szBinS c_laws_szBinS_2 fr H K) (finK R_laws_szBinS [.t 4]))) (some 0) [(1, .n .i64 ev1_1)] ⟨1, []⟩ = laws_szBinS_x1_0 N ev1_1 := by kernel_rfl
def laws_szBinS_l1 (k0_0 : Int → Option Int) (N : Nat) (a0 : List DBin) : Nat → Int → Int → Option Int
  | 0, _, _ => none
  | n + 1, v1_1, v5_1 => laws_szBinS_l1s (laws_szBinS_l1 k0_0 N a0 n) k0_0 N a0 v1_1 v5_1
def laws_szBinS_h1 (N : Nat) (a0 : List DBin) (v1_1 : Int) (v5_1 : Int) : Option Int :=
  laws_szBinS_l1 (fun ev1_1 => laws_szBinS_x1_0 N ev1_1) N a0 N v1_1 v5_1
theorem laws_szBinS_l1_run (N : Nat)  (K : Option Nat → Fr2 → Hp → Option Int) (a0 : List DBin) : ∀ (n : Nat) (v1_1 : Int) (v5_1 : Int),
    rloop (fun fr H K => rcode (O_laws_szBinS N) τ_laws_szBinS N fin_laws_szBinS c_laws_szBinS_1 fr H K) [0, 1, 5] [] [1] K n [(0, .q tBin a0), (1, .n .i64 v1_1), (5, .n .i64 v5_1)] ⟨1, []⟩ = laws_szBinS_l1 (fun ev1_1 => K (some 0) [(1, .n .i64 ev1_1)] ⟨1, []⟩) N a0 n v1_1 v5_1 := by
  intro n
  induction n with
  | zero => intro v1_1 v5_1; kernel_rfl
  | succ n ih => intro v1_1 v5_1; exact (laws_szBinS_l1s_run N (rloop (fun fr H K => rcode (O_laws_szBinS N) τ_laws_szBinS N fin_laws_szBinS c_laws_szBinS_1 fr H K) [0, 1, 5] [] [1] K n) K a0 v1_1 v5_1).trans (congrArg (fun r => laws_szBinS_l1s r (fun ev1_1 => K (some 0) [(1, .n .i64 ev1_1)] ⟨1, []⟩) N a0 v1_1 v5_1) (funext fun v1_1 => funext fun v5_1 => ih v1_1 v5_1))
theorem laws_szBinS_h1_run (N : Nat) (a0 : List DBin) (v1_1 : Int) (v5_1 : Int) : rloop (fun fr H K => rcode (O_laws_szBinS N) τ_laws_szBinS N fin_laws_szBinS c_laws_szBinS_1 fr H K) [0, 1, 5] [] [1] (blockK 0 (seqK' (fun fr H K => rcode (O_laws_szBinS N) τ_laws_szBinS N fin_laws_szBinS c_laws_szBinS_2 fr H K) (finK R_laws_szBinS [.t 4]))) N [(0, .q tBin a0), (1, .n .i64 v1_1), (5, .n .i64 v5_1)] ⟨1, []⟩ = laws_szBinS_h1 N a0 v1_1 v5_1 :=
  ((laws_szBinS_l1_run N (blockK 0 (seqK' (fun fr H K => rcode (O_laws_szBinS N) τ_laws_szBinS N fin_laws_szBinS c_laws_szBinS_2 fr H K) (finK R_laws_szBinS [.t 4]))) a0 N v1_1 v5_1)).trans (congrArg (fun h => laws_szBinS_l1 h N a0 N v1_1 v5_1) (funext fun ev1_1 => laws_szBinS_x1_0_run N ev1_1))
def F_laws_szBinSR (N : Nat) (laws_szBinS_h1 : List DBin → Int → Int → Option Int) (a0 : List DBin) (a1 : Int) : Option Int :=
  bif (ilt (w64 (a1 - ((a0.length) : Int))) (0 : Int)) then
    some (-1 : Int)
  else
    laws_szBinS_h1 a0 (w64 (a1 - ((a0.length) : Int))) (0 : Int)
def F_laws_szBinS (N : Nat) (a0 : List DBin) (a1 : Int) : Option Int := F_laws_szBinSR N (laws_szBinS_h1 N) a0 a1
theorem F_laws_szBinS_raw (N : Nat) (a0 : List DBin) (a1 : Int) :
    runF (O_laws_szBinS N) N B_laws_szBinS R_laws_szBinS (vals T_laws_szBinS (a0, a1)) = F_laws_szBinSR N (fun a0 v1_1 v5_1 => rloop (fun fr H K => rcode (O_laws_szBinS N) τ_laws_szBinS N fin_laws_szBinS c_laws_szBinS_1 fr H K) [0, 1, 5] [] [1] (blockK 0 (seqK' (fun fr H K => rcode (O_laws_szBinS N) τ_laws_szBinS N fin_laws_szBinS c_laws_szBinS_2 fr H K) (finK R_laws_szBinS [.t 4]))) N [(0, .q tBin a0), (1, .n .i64 v1_1), (5, .n .i64 v5_1)] ⟨1, []⟩) a0 a1 := by kernel_rfl
theorem F_laws_szBinS_run (N : Nat) (a0 : List DBin) (a1 : Int) :
    runF (O_laws_szBinS N) N B_laws_szBinS R_laws_szBinS (vals T_laws_szBinS (a0, a1)) = F_laws_szBinS N a0 a1 :=
  (F_laws_szBinS_raw N a0 a1).trans (congrArg (fun h => F_laws_szBinSR N h a0 a1) (funext fun a0 => funext fun v1_1 => funext fun v5_1 => laws_szBinS_h1_run N a0 v1_1 v5_1))
def P_laws_szBinS (N : Nat) (a0 : List DBin) (a1 : Int) : Bool := lock (F_laws_szBinS N a0 a1).isSome
def G_laws_szBinS (N : Nat) (a0 : List DBin) (a1 : Int) : Int := lock ((F_laws_szBinS N a0 a1).getD (0 : Int))
theorem FG_laws_szBinS {N : Nat} (a0 : List DBin) (a1 : Int) (h : P_laws_szBinS N a0 a1 = true) : F_laws_szBinS N a0 a1 = some (G_laws_szBinS N a0 a1) := by unfold P_laws_szBinS at h; unfold G_laws_szBinS; rw [lock_eq] at h ⊢; exact some_of_isSome h
theorem PG_laws_szBinS {N : Nat} {a0 : List DBin} {a1 : Int} {v : Int} (h : F_laws_szBinS N a0 a1 = some v) : P_laws_szBinS N a0 a1 = true ∧ G_laws_szBinS N a0 a1 = v := by unfold P_laws_szBinS G_laws_szBinS; rw [h, lock_eq, lock_eq]; exact ⟨rfl, rfl⟩
def o_laws_szBinS (N : Nat) : List V → Bool × V := mkO T_laws_szBinS R_laws_szBinS (fun (x : (List DBin × Int)) => P_laws_szBinS N x.1 x.2) (fun (x : (List DBin × Int)) => G_laws_szBinS N x.1 x.2)
theorem laws_szBinS_entry (N : Nat) : Entry Try.prog 20 (o_laws_szBinS N) := Entry.of fun (x : (List DBin × Int)) h =>
  Pf.of_run hm Try.func20 okFn_laws_szBinS B_laws_szBinS_ok B_laws_szBinS_wf (O_laws_szBinS_ok N) rfl ((F_laws_szBinS_run N x.1 x.2).trans (FG_laws_szBinS x.1 x.2 h))
/-! loop.example/g00526/laws.szCore -/
abbrev T_laws_szCore : List GT := [tCore, (.i .i64)]
abbrev R_laws_szCore : List GT := [(.i .i64)]
def fin_laws_szCore : Fr2 → Hp → Option Int := finF R_laws_szCore [.t 4]
def O_laws_szCore (N : Nat) : Orac := orc [(56, o_laws_szInt64S), (20, o_laws_szBinS N)] []
theorem O_laws_szCore_ok (N : Nat) : OrcOk Try.prog (O_laws_szCore N) := OrcOk.of ⟨laws_szInt64S_entry, laws_szBinS_entry N, trivial⟩ trivial
def τ_laws_szCore : Nat → Option GT := fun _ => none
def B_laws_szCore : F2 := ⟨18, 2, [.t 4], τ_laws_szCore,
    .seq (.reg .reg [.op (some 2) (.box (.t 0)),
      .op (some 4) (.mov (.c (.n .i64 0)))])
    (.seq (.reg .reg [.op (some 5) (.fad 1 (.t 2)),
      .op (some 6) (.load 1 false (.t 5)),
      .op (some 7) (.mov (.t 1)),
      .op (some 8) (.call (.c (.f 56 [])) [.t 6, .t 7]),
      .op (some 1) (.mov (.t 8))])
    (.seq (.seq (.reg .reg [.op (some 9) (.mov (.t 1)),
      .op (some 10) (.bin .lss (.t 9) (.c (.n .i64 0)))])
    (.cond (.t 10) (.seq (.reg .reg [.op (some 4) (.mov (.c (.n .i64 (-1))))])
    (.ret))
    (.skip)))
    (.seq (.reg .reg [.op (some 11) (.fad 2 (.t 2)),
      .op (some 12) (.load 1 false (.t 11)),
      .op (some 13) (.mov (.t 1)),
      .op (some 14) (.call (.c (.f 20 [])) [.t 12, .t 13]),
      .op (some 1) (.mov (.t 14))])
    (.seq (.seq (.reg .reg [.op (some 15) (.mov (.t 1)),
      .op (some 16) (.bin .lss (.t 15) (.c (.n .i64 0)))])
    (.cond (.t 16) (.seq (.reg .reg [.op (some 4) (.mov (.c (.n .i64 (-1))))])
    (.ret))
    (.skip)))
    (.seq (.reg .reg [.op (some 17) (.mov (.t 1)),
      .op (some 4) (.mov (.t 17))])
    (.ret))))))⟩
theorem B_laws_szCore_ok : checkFn Try.prog Try.f15 B_laws_szCore.toA = true := by kernel_rfl
theorem B_laws_szCore_wf : B_laws_szCore.body.wf = true := by kernel_rfl
theorem okFn_laws_szCore : okFn Try.prog 15 = true := by kernel_rfl
def F_laws_szCore (N : Nat) (a0 : DCore) (a1 : Int) : Option Int :=
  bif (ilt (G_laws_szInt64S a0.2.1 a1) (0 : Int)) then
    some (-1 : Int)
  else
    chk (P_laws_szBinS N a0.2.2.1 (G_laws_szInt64S a0.2.1 a1)) <|
    bif (ilt (G_laws_szBinS N a0.2.2.1 (G_laws_szInt64S a0.2.1 a1)) (0 : Int)) then
      some (-1 : Int)
    else
      some (G_laws_szBinS N a0.2.2.1 (G_laws_szInt64S a0.2.1 a1))
theorem F_laws_szCore_run (N : Nat) (a0 : DCore) (a1 : Int) :
    runF (O_laws_szCore N) N B_laws_szCore R_laws_szCore (vals T_laws_szCore (a0, a1)) = F_laws_szCore N a0 a1 := by kernel_rfl
def P_laws_szCore (N : Nat) (a0 : DCore) (a1 : Int) : Bool := lock (F_laws_szCore N a0 a1).isSome
def G_laws_szCore (N : Nat) (a0 : DCore) (a1 : Int) : Int := lock ((F_laws_szCore N a0 a1).getD (0 : Int))
theorem FG_laws_szCore {N : Nat} (a0 : DCore) (a1 : Int) (h : P_laws_szCore N a0 a1 = true) : F_laws_szCore N a0 a1 = some (G_laws_szCore N a0 a1) := by unfold P_laws_szCore at h; unfold G_laws_szCore; rw [lock_eq] at h ⊢; exact some_of_isSome h
theorem PG_laws_szCore {N : Nat} {a0 : DCore} {a1 : Int} {v : Int} (h : F_laws_szCore N a0 a1 = some v) : P_laws_szCore N a0 a1 = true ∧ G_laws_szCore N a0 a1 = v := by unfold P_laws_szCore G_laws_szCore; rw [h, lock_eq, lock_eq]; exact ⟨rfl, rfl⟩
def o_laws_szCore (N : Nat) : List V → Bool × V := mkO T_laws_szCore R_laws_szCore (fun (x : (DCore × Int)) => P_laws_szCore N x.1 x.2) (fun (x : (DCore × Int)) => G_laws_szCore N x.1 x.2)
theorem laws_szCore_entry (N : Nat) : Entry Try.prog 15 (o_laws_szCore N) := Entry.of fun (x : (DCore × Int)) h =>
  Pf.of_run hm Try.func15 okFn_laws_szCore B_laws_szCore_ok B_laws_szCore_wf (O_laws_szCore_ok N) rfl ((F_laws_szCore_run N x.1 x.2).trans (FG_laws_szCore x.1 x.2 h))
/-! loop.example/g00526/laws.toInt64S -/
abbrev T_laws_toInt64S : List GT := [(.sl (.i .i64))]
abbrev R_laws_toInt64S : List GT := [(.sl (.i .i64))]
def fin_laws_toInt64S : Fr2 → Hp → Option (List Int) := finF R_laws_toInt64S [.t 2]
def O_laws_toInt64S (N : Nat) : Orac := orc [] []
theorem O_laws_toInt64S_ok (N : Nat) : OrcOk Try.prog (O_laws_toInt64S N) := OrcOk.of trivial trivial
def c_laws_toInt64S_1 : C2 :=
    .seq (.seq (.reg .reg [.op (some 8) (.mov (.t 4)),
      .op (some 9) (.mov (.t 0)),
      .op (some 10) (.len false (.t 9)),
      .op (some 11) (.bin .lss (.t 8) (.t 10))])
    (.cond (.t 11) (.skip)
    (.exit 0)))
    (.seq (.block 1 (.reg .reg [.op (some 14) (.mov (.t 3)),
      .op (some 15) (.mov (.t 4)),
      .op (some 16) (.mov (.t 0)),
      .op (some 17) (.mov (.t 4)),
      .op (some 18) (.iad 1 (.t 16) (.t 17)),
      .op (some 19) (.load 1 false (.t 18)),
      .op (some 20) (.iad 1 (.t 14) (.t 15)),
      .op none (.stor 1 (.t 20) (.t 19))]))
    (.reg .reg [.op (some 12) (.mov (.t 4)),
      .op (some 13) (.bin .add (.t 12) (.c (.n .i64 1))),
      .op (some 4) (.mov (.t 13))]))
def c_laws_toInt64S_2 : C2 :=
    .seq (.reg .reg [.op (some 21) (.mov (.t 3)),
      .op (some 2) (.mov (.t 21))])
    (.ret)
def τ_laws_toInt64S : Nat → Option GT
  | 7 => some (.i .i64)
  | _ => none
def B_laws_toInt64S : F2 := ⟨22, 1, [.t 2], τ_laws_toInt64S,
    .seq (.reg .reg [.op (some 2) (.mov (.c (.l 0 0 0)))])
    (.seq (.reg .reg [.op (some 5) (.mov (.t 0)),
      .op (some 6) (.len false (.t 5)),
      .op (some 7) (.mks 8 [.n .i64 0] (.t 6)),
      .op (some 3) (.mov (.t 7))])
    (.seq (.seq (.reg .reg [.op (some 4) (.mov (.c (.n .i64 0)))])
    (.block 0 (.loop [0, 3, 4] [] [3] c_laws_toInt64S_1)))
    (c_laws_toInt64S_2)))⟩
theorem B_laws_toInt64S_ok : checkFn Try.prog Try.f61 B_laws_toInt64S.toA = true := by kernel_rfl
theorem B_laws_toInt64S_wf : B_laws_toInt64S.body.wf = true := by kernel_rfl
theorem okFn_laws_toInt64S : okFn Try.prog 61 = true := by kernel_rfl
def laws_toInt64S_l1s (r0 : Int → List Int → Option (List Int)) (k0_0 : List Int → Option (List Int)) (N : Nat) (a0 : List Int) (v4_1 : Int) (h1_1 : List Int) : Option (List Int) :=
  bif (ilt v4_1 ((a0.length) : Int)) then
    let x1 : Int := (a0.getD (v4_1.toNat) (0 : Int))
    let h1 : List Int := (h1_1.set (v4_1.toNat) x1)
    chk (inb v4_1 (a0.length)) <|
    chk (inb v4_1 (h1_1.length)) <|
    r0 (w64 (v4_1 + (1 : Int))) h1
  else
    k0_0 h1_1
theorem laws_toInt64S_l1s_run (N : Nat) (C0 : Fr2 → Hp → Option (List Int)) (K0 : Option Nat → Fr2 → Hp → Option (List Int)) (a0 : List Int) (v4_1 : Int) (h1_1 : List Int) :
    rcode (O_laws_toInt64S N) τ_laws_toInt64S N fin_laws_toInt64S c_laws_toInt64S_1 [(0, .q (.i .i64) a0), (3, .w 1), (4, .n .i64 v4_1)] ⟨2, [(1, .ty (.i .i64) h1_1)]⟩ (roundK [0, 3, 4] [] [3] C0 K0) = laws_toInt64S_l1s (fun v4_1 h1_1 => C0 [(0, .q (.i .i64) a0), (3, .w 1), (4, .n .i64 v4_1)] ⟨2, [(1, .ty (.i .i64) h1_1)]⟩) (fun eh1_1 => K0 (some 0) [(3, .w 1)] ⟨2, [(1, .ty (.i .i64) eh1_1)]⟩) N a0 v4_1 h1_1 := by kernel_rfl
def laws_toInt64S_x1_0 (N : Nat) (eh1_1 : List Int) : Option (List Int) :=
  some eh1_1
theorem laws_toInt64S_x1_0_run (N : Nat) (eh1_1 : List Int) :
    (blockK 0 (seqK' (fun fr H K => rcode (O_laws_toInt64S N) τ_laws_toInt64S N fin_laws_toInt64S c_laws_toInt64S_2 fr H K) (finK R_laws_toInt64S [.t 2]))) (some 0) [(3, .w 1)] ⟨2, [(1, .ty (.i .i64) eh1_1)]⟩ = laws_toInt64S_x1_0 N eh1_1 := by kernel_rfl
def laws_toInt64S_l1 (k0_0 : List Int → Option (List Int)) (N : Nat) (a0 : List Int) : Nat → Int → List Int → Option (List Int)
  | 0, _, _ => none
  | n + 1, v4_1, h1_1 => laws_toInt64S_l1s (laws_toInt64S_l1 k0_0 N a0 n) k0_0 N a0 v4_1 h1_1
def laws_toInt64S_h1 (N : Nat) (a0 : List Int) (v4_1 : Int) (h1_1 : List Int) : Option (List Int) :=
  laws_toInt64S_l1 (fun eh1_1 => laws_toInt64S_x1_0 N eh1_1) N a0 N v4_1 h1_1
theorem laws_toInt64S_l1_run (N : Nat)  (K : Option Nat → Fr2 → Hp → Option (List Int)) (a0 : List Int) : ∀ (n : Nat) (v4_1 : Int) (h1_1 : List Int),
    rloop (fun fr H K => rcode (O_laws_toInt64S N) τ_laws_toInt64S N fin_laws_toInt64S c_laws_toInt64S_1 fr H K) [0, 3, 4] [] [3] K n [(0, .q (.i .i64) a0), (3, .w 1), (4, .n .i64 v4_1)] ⟨2, [(1, .ty (.i .i64) h1_1)]⟩ = laws_toInt64S_l1 (fun eh1_1 => K (some 0) [(3, .w 1)] ⟨2, [(1, .ty (.i .i64) eh1_1)]⟩) N a0 n v4_1 h1_1 := by
  intro n
  induction n with
  | zero => intro v4_1 h1_1; kernel_rfl
  | succ n ih => intro v4_1 h1_1; exact (laws_toInt64S_l1s_run N (rloop (fun fr H K => rcode (O_laws_toInt64S N) τ_laws_toInt64S N fin_laws_toInt64S c_laws_toInt64S_1 fr H K) [0, 3, 4] [] [3] K n) K a0 v4_1 h1_1).trans (congrArg (fun r => laws_toInt64S_l1s r (fun eh1_1 => K (some 0) [(3, .w 1)] ⟨2, [(1, .ty (.i .i64) eh1_1)]⟩) N a0 v4_1 h1_1) (funext fun v4_1 => funext fun h1_1 => ih v4_1 h1_1))
theorem laws_toInt64S_h1_run (N : Nat) (a0 : List Int) (v4_1 : Int) (h1_1 : List Int) : rloop (fun fr H K => rcode (O_laws_toInt64S N) τ_laws_toInt64S N fin_laws_toInt64S c_laws_toInt64S_1 fr H K) [0, 3, 4] [] [3] (blockK 0 (seqK' (fun fr H K => rcode (O_laws_toInt64S N) τ_laws_toInt64S N fin_laws_toInt64S c_laws_toInt64S_2 fr H K) (finK R_laws_toInt64S [.t 2]))) N [(0, .q (.i .i64) a0), (3, .w 1), (4, .n .i64 v4_1)] ⟨2, [(1, .ty (.i .i64) h1_1)]⟩ = laws_toInt64S_h1 N a0 v4_1 h1_1 :=
  ((laws_toInt64S_l1_run N (blockK 0 (seqK' (fun fr H K => rcode (O_laws_toInt64S N) τ_laws_toInt64S N fin_laws_toInt64S c_laws_toInt64S_2 fr H K) (finK R_laws_toInt64S [.t 2]))) a0 N v4_1 h1_1)).trans (congrArg (fun h => laws_toInt64S_l1 h N a0 N v4_1 h1_1) (funext fun eh1_1 => laws_toInt64S_x1_0_run N eh1_1))
def F_laws_toInt64SR (N : Nat) (laws_toInt64S_h1 : List Int → Int → List Int → Option (List Int)) (a0 : List Int) : Option (List Int) :=
  chk (mkOk 8 ((a0.length) : Int)) <|
  laws_toInt64S_h1 a0 (0 : Int) (List.replicate (((a0.length) : Int).toNat) (0 : Int))
def F_laws_toInt64S (N : Nat) (a0 : List Int) : Option (List Int) := F_laws_toInt64SR N (laws_toInt64S_h1 N) a0
theorem F_laws_toInt64S_raw (N : Nat) (a0 : List Int) :
    runF (O_laws_toInt64S N) N B_laws_toInt64S R_laws_toInt64S (vals T_laws_toInt64S a0) = F_laws_toInt64SR N (fun a0 v4_1 h1_1 => rloop (fun fr H K => rcode (O_laws_toInt64S N) τ_laws_toInt64S N fin_laws_toInt64S c_laws_toInt64S_1 fr H K) [0, 3, 4] [] [3] (blockK 0 (seqK' (fun fr H K => rcode (O_laws_toInt64S N) τ_laws_toInt64S N fin_laws_toInt64S c_laws_toInt64S_2 fr H K) (finK R_laws_toInt64S [.t 2]))) N [(0, .q (.i .i64) a0), (3, .w 1), (4, .n .i64 v4_1)] ⟨2, [(1, .ty (.i .i64) h1_1)]⟩) a0 := by kernel_rfl
theorem F_laws_toInt64S_run (N : Nat) (a0 : List Int) :
    runF (O_laws_toInt64S N) N B_laws_toInt64S R_laws_toInt64S (vals T_laws_toInt64S a0) = F_laws_toInt64S N a0 :=
  (F_laws_toInt64S_raw N a0).trans (congrArg (fun h => F_laws_toInt64SR N h a0) (funext fun a0 => funext fun v4_1 => funext fun h1_1 => laws_toInt64S_h1_run N a0 v4_1 h1_1))
def P_laws_toInt64S (N : Nat) (a0 : List Int) : Bool := lock (F_laws_toInt64S N a0).isSome
def G_laws_toInt64S (N : Nat) (a0 : List Int) : (List Int) := lock ((F_laws_toInt64S N a0).getD [])
theorem FG_laws_toInt64S {N : Nat} (a0 : List Int) (h : P_laws_toInt64S N a0 = true) : F_laws_toInt64S N a0 = some (G_laws_toInt64S N a0) := by unfold P_laws_toInt64S at h; unfold G_laws_toInt64S; rw [lock_eq] at h ⊢; exact some_of_isSome h
theorem PG_laws_toInt64S {N : Nat} {a0 : List Int} {v : (List Int)} (h : F_laws_toInt64S N a0 = some v) : P_laws_toInt64S N a0 = true ∧ G_laws_toInt64S N a0 = v := by unfold P_laws_toInt64S G_laws_toInt64S; rw [h, lock_eq, lock_eq]; exact ⟨rfl, rfl⟩
def o_laws_toInt64S (N : Nat) : List V → Bool × V := mkO T_laws_toInt64S R_laws_toInt64S (fun (x : List Int) => P_laws_toInt64S N x) (fun (x : List Int) => G_laws_toInt64S N x)
theorem laws_toInt64S_entry (N : Nat) : Entry Try.prog 61 (o_laws_toInt64S N) := Entry.of fun (x : List Int) h =>
  Pf.of_run hm Try.func61 okFn_laws_toInt64S B_laws_toInt64S_ok B_laws_toInt64S_wf (O_laws_toInt64S_ok N) rfl ((F_laws_toInt64S_run N x).trans (FG_laws_toInt64S x h))
/-! loop.example/g00526/laws.toBin -/
abbrev T_laws_toBin : List GT := [tBin]
abbrev R_laws_toBin : List GT := [tBin]
def fin_laws_toBin : Fr2 → Hp → Option DBin := finF R_laws_toBin [.cell 2 2 true]
def O_laws_toBin (N : Nat) : Orac := orc [] []
theorem O_laws_toBin_ok (N : Nat) : OrcOk Try.prog (O_laws_toBin N) := OrcOk.of trivial trivial
def τ_laws_toBin : Nat → Option GT := fun _ => none
def B_laws_toBin : F2 := ⟨11, 1, [.cell 2 2 true], τ_laws_toBin,
    .seq (.reg .reg [.op (some 1) (.box (.t 0)),
      .op (some 2) (.aloc [.s ⟨#[]⟩, .n .i64 0])])
    (.seq (.reg .reg [.op (some 3) (.aloc [.s ⟨#[]⟩, .n .i64 0])])
    (.seq (.reg .reg [.op (some 4) (.fad 0 (.t 1)),
      .op (some 5) (.load 1 false (.t 4)),
      .op (some 6) (.fad 0 (.t 3)),
      .op none (.stor 1 (.t 6) (.t 5))])
    (.seq (.reg .reg [.op (some 7) (.fad 1 (.t 1)),
      .op (some 8) (.load 1 false (.t 7)),
      .op (some 9) (.fad 1 (.t 3)),
      .op none (.stor 1 (.t 9) (.t 8))])
    (.seq (.reg .reg [.op (some 10) (.load 2 true (.t 3)),
      .op none (.stor 2 (.t 2) (.t 10))])
    (.ret)))))⟩
theorem B_laws_toBin_ok : checkFn Try.prog Try.f65 B_laws_toBin.toA = true := by kernel_rfl
theorem B_laws_toBin_wf : B_laws_toBin.body.wf = true := by kernel_rfl
theorem okFn_laws_toBin : okFn Try.prog 65 = true := by kernel_rfl
def F_laws_toBin (N : Nat) (a0 : DBin) : Option DBin :=
  some a0
theorem F_laws_toBin_run (N : Nat) (a0 : DBin) :
    runF (O_laws_toBin N) N B_laws_toBin R_laws_toBin (vals T_laws_toBin a0) = F_laws_toBin N a0 := by kernel_rfl
def G_laws_toBin (a0 : DBin) : DBin :=
  a0
theorem FG_laws_toBin (N : Nat) (a0 : DBin) : F_laws_toBin N a0 = some (G_laws_toBin a0) := by
  first | rfl | (simp only [F_laws_toBin, G_laws_toBin, cond_some]; done) | (unfold F_laws_toBin G_laws_toBin; simp only [cond_some]; done)
def o_laws_toBin : List V → Bool × V := mkO T_laws_toBin R_laws_toBin (fun (x : DBin) => true) (fun (x : DBin) => G_laws_toBin x)
theorem laws_toBin_entry : Entry Try.prog 65 o_laws_toBin := Entry.of fun (x : DBin) _ =>
  Pf.of_run hm Try.func65 okFn_laws_toBin B_laws_toBin_ok B_laws_toBin_wf (O_laws_toBin_ok 0) rfl ((F_laws_toBin_run 0 x).trans (FG_laws_toBin 0 x))
/-! loop.example/g00526/laws.toBinS -/
abbrev T_laws_toBinS : List GT := [(.sl tBin)]
abbrev R_laws_toBinS : List GT := [(.sl tBin)]
def fin_laws_toBinS : Fr2 → Hp → Option (List DBin) := finF R_laws_toBinS [.t 2]
def O_laws_toBinS (N : Nat) : Orac := orc [(65, o_laws_toBin)] []
theorem O_laws_toBinS_ok (N : Nat) : OrcOk Try.prog (O_laws_toBinS N) := OrcOk.of ⟨laws_toBin_entry, trivial⟩ trivial
def c_laws_toBinS_1 : C2 :=
    .seq (.seq (.reg .reg [.op (some 8) (.mov (.t 4)),
      .op (some 9) (.mov (.t 0)),
      .op (some 10) (.len false (.t 9)),
      .op (some 11) (.bin .lss (.t 8) (.t 10))])
    (.cond (.t 11) (.skip)
    (.exit 0)))
    (.seq (.block 1 (.reg .reg [.op (some 14) (.mov (.t 3)),
      .op (some 15) (.mov (.t 4)),
      .op (some 16) (.mov (.t 0)),
      .op (some 17) (.mov (.t 4)),
      .op (some 18) (.iad 2 (.t 16) (.t 17)),
      .op (some 19) (.load 2 true (.t 18)),
      .op (some 20) (.call (.c (.f 65 [])) [.t 19]),
      .op (some 21) (.iad 2 (.t 14) (.t 15)),
      .op none (.stor 2 (.t 21) (.t 20))]))
    (.reg .reg [.op (some 12) (.mov (.t 4)),
      .op (some 13) (.bin .add (.t 12) (.c (.n .i64 1))),
      .op (some 4) (.mov (.t 13))]))
def c_laws_toBinS_2 : C2 :=
    .seq (.reg .reg [.op (some 22) (.mov (.t 3)),
      .op (some 2) (.mov (.t 22))])
    (.ret)
def τ_laws_toBinS : Nat → Option GT
  | 7 => some tBin
  | _ => none
def B_laws_toBinS : F2 := ⟨23, 1, [.t 2], τ_laws_toBinS,
    .seq (.reg .reg [.op (some 2) (.mov (.c (.l 0 0 0)))])
    (.seq (.reg .reg [.op (some 5) (.mov (.t 0)),
      .op (some 6) (.len false (.t 5)),
      .op (some 7) (.mks 24 [.s ⟨#[]⟩, .n .i64 0] (.t 6)),
      .op (some 3) (.mov (.t 7))])
    (.seq (.seq (.reg .reg [.op (some 4) (.mov (.c (.n .i64 0)))])
    (.block 0 (.loop [0, 3, 4] [] [3] c_laws_toBinS_1)))
    (c_laws_toBinS_2)))⟩
theorem B_laws_toBinS_ok : checkFn Try.prog Try.f22 B_laws_toBinS.toA = true := by kernel_rfl
theorem B_laws_toBinS_wf : B_laws_toBinS.body.wf = true := by kernel_rfl
theorem okFn_laws_toBinS : okFn Try.prog 22 = true := by kernel_rfl
def laws_toBinS_l1s (r0 : Int → List DBin → Option (List DBin)) (k0_0 : List DBin → Option (List DBin)) (N : Nat) (a0 : List DBin) (v4_1 : Int) (h1_1 : List DBin) : Option (List DBin) :=
  bif (ilt v4_1 ((a0.length) : Int)) then
    let x1 : DBin := (a0.getD (v4_1.toNat) dBin)
    let r1 : DBin := (G_laws_toBin x1)
    let h1 : List DBin := (h1_1.set (v4_1.toNat) r1)
    chk (inb v4_1 (a0.length)) <|
    chk (inb v4_1 (h1_1.length)) <|
    r0 (w64 (v4_1 + (1 : Int))) h1
  else
    k0_0 h1_1
theorem laws_toBinS_l1s_run (N : Nat) (C0 : Fr2 → Hp → Option (List DBin)) (K0 : Option Nat → Fr2 → Hp → Option (List DBin)) (a0 : List DBin) (v4_1 : Int) (h1_1 : List DBin) :
    rcode (O_laws_toBinS N) τ_laws_toBinS N fin_laws_toBinS c_laws_toBinS_1 [(0, .q tBin a0), (3, .w 1), (4, .n .i64 v4_1)] ⟨2, [(1, .ty tBin h1_1)]⟩ (roundK [0, 3, 4] [] [3] C0 K0) = laws_toBinS_l1s (fun v4_1 h1_1 => C0 [(0, .q tBin a0), (3, .w 1), (4, .n .i64 v4_1)] ⟨2, [(1, .ty tBin h1_1)]⟩) (fun eh1_1 => K0 (some 0) [(3, .w 1)] ⟨2, [(1, .ty tBin eh1_1)]⟩) N a0 v4_1 h1_1 := by kernel_rfl
def laws_toBinS_x1_0 (N : Nat) (eh1_1 : List DBin) : Option (List DBin) :=
  some eh1_1
theorem laws_toBinS_x1_0_run (N : Nat) (eh1_1 : List DBin) :
    (blockK 0 (seqK' (fun fr H K => rcode (O_laws_toBinS N) τ_laws_toBinS N fin_laws_toBinS c_laws_toBinS_2 fr H K) (finK R_laws_toBinS [.t 2]))) (some 0) [(3, .w 1)] ⟨2, [(1, .ty tBin eh1_1)]⟩ = laws_toBinS_x1_0 N eh1_1 := by kernel_rfl
def laws_toBinS_l1 (k0_0 : List DBin → Option (List DBin)) (N : Nat) (a0 : List DBin) : Nat → Int → List DBin → Option (List DBin)
  | 0, _, _ => none
  | n + 1, v4_1, h1_1 => laws_toBinS_l1s (laws_toBinS_l1 k0_0 N a0 n) k0_0 N a0 v4_1 h1_1
def laws_toBinS_h1 (N : Nat) (a0 : List DBin) (v4_1 : Int) (h1_1 : List DBin) : Option (List DBin) :=
  laws_toBinS_l1 (fun eh1_1 => laws_toBinS_x1_0 N eh1_1) N a0 N v4_1 h1_1
theorem laws_toBinS_l1_run (N : Nat)  (K : Option Nat → Fr2 → Hp → Option (List DBin)) (a0 : List DBin) : ∀ (n : Nat) (v4_1 : Int) (h1_1 : List DBin),
    rloop (fun fr H K => rcode (O_laws_toBinS N) τ_laws_toBinS N fin_laws_toBinS c_laws_toBinS_1 fr H K) [0, 3, 4] [] [3] K n [(0, .q tBin a0), (3, .w 1), (4, .n .i64 v4_1)] ⟨2, [(1, .ty tBin h1_1)]⟩ = laws_toBinS_l1 (fun eh1_1 => K (some 0) [(3, .w 1)] ⟨2, [(1, .ty tBin eh1_1)]⟩) N a0 n v4_1 h1_1 := by
  intro n
  induction n with
  | zero => intro v4_1 h1_1; kernel_rfl
  | succ n ih => intro v4_1 h1_1; exact (laws_toBinS_l1s_run N (rloop (fun fr H K => rcode (O_laws_toBinS N) τ_laws_toBinS N fin_laws_toBinS c_laws_toBinS_1 fr H K) [0, 3, 4] [] [3] K n) K a0 v4_1 h1_1).trans (congrArg (fun r => laws_toBinS_l1s r (fun eh1_1 => K (some 0) [(3, .w 1)] ⟨2, [(1, .ty tBin eh1_1)]⟩) N a0 v4_1 h1_1) (funext fun v4_1 => funext fun h1_1 => ih v4_1 h1_1))
theorem laws_toBinS_h1_run (N : Nat) (a0 : List DBin) (v4_1 : Int) (h1_1 : List DBin) : rloop (fun fr H K => rcode (O_laws_toBinS N) τ_laws_toBinS N fin_laws_toBinS c_laws_toBinS_1 fr H K) [0, 3, 4] [] [3] (blockK 0 (seqK' (fun fr H K => rcode (O_laws_toBinS N) τ_laws_toBinS N fin_laws_toBinS c_laws_toBinS_2 fr H K) (finK R_laws_toBinS [.t 2]))) N [(0, .q tBin a0), (3, .w 1), (4, .n .i64 v4_1)] ⟨2, [(1, .ty tBin h1_1)]⟩ = laws_toBinS_h1 N a0 v4_1 h1_1 :=
  ((laws_toBinS_l1_run N (blockK 0 (seqK' (fun fr H K => rcode (O_laws_toBinS N) τ_laws_toBinS N fin_laws_toBinS c_laws_toBinS_2 fr H K) (finK R_laws_toBinS [.t 2]))) a0 N v4_1 h1_1)).trans (congrArg (fun h => laws_toBinS_l1 h N a0 N v4_1 h1_1) (funext fun eh1_1 => laws_toBinS_x1_0_run N eh1_1))
def F_laws_toBinSR (N : Nat) (laws_toBinS_h1 : List DBin → Int → List DBin → Option (List DBin)) (a0 : List DBin) : Option (List DBin) :=
  chk (mkOk 24 ((a0.length) : Int)) <|
  laws_toBinS_h1 a0 (0 : Int) (List.replicate (((a0.length) : Int).toNat) dBin)
def F_laws_toBinS (N : Nat) (a0 : List DBin) : Option (List DBin) := F_laws_toBinSR N (laws_toBinS_h1 N) a0
theorem F_laws_toBinS_raw (N : Nat) (a0 : List DBin) :
    runF (O_laws_toBinS N) N B_laws_toBinS R_laws_toBinS (vals T_laws_toBinS a0) = F_laws_toBinSR N (fun a0 v4_1 h1_1 => rloop (fun fr H K => rcode (O_laws_toBinS N) τ_laws_toBinS N fin_laws_toBinS c_laws_toBinS_1 fr H K) [0, 3, 4] [] [3] (blockK 0 (seqK' (fun fr H K => rcode (O_laws_toBinS N) τ_laws_toBinS N fin_laws_toBinS c_laws_toBinS_2 fr H K) (finK R_laws_toBinS [.t 2]))) N [(0, .q tBin a0), (3, .w 1), (4, .n .i64 v4_1)] ⟨2, [(1, .ty tBin h1_1)]⟩) a0 := by kernel_rfl
theorem F_laws_toBinS_run (N : Nat) (a0 : List DBin) :
    runF (O_laws_toBinS N) N B_laws_toBinS R_laws_toBinS (vals T_laws_toBinS a0) = F_laws_toBinS N a0 :=
  (F_laws_toBinS_raw N a0).trans (congrArg (fun h => F_laws_toBinSR N h a0) (funext fun a0 => funext fun v4_1 => funext fun h1_1 => laws_toBinS_h1_run N a0 v4_1 h1_1))
def P_laws_toBinS (N : Nat) (a0 : List DBin) : Bool := lock (F_laws_toBinS N a0).isSome
def G_laws_toBinS (N : Nat) (a0 : List DBin) : (List DBin) := lock ((F_laws_toBinS N a0).getD [])
theorem FG_laws_toBinS {N : Nat} (a0 : List DBin) (h : P_laws_toBinS N a0 = true) : F_laws_toBinS N a0 = some (G_laws_toBinS N a0) := by unfold P_laws_toBinS at h; unfold G_laws_toBinS; rw [lock_eq] at h ⊢; exact some_of_isSome h
theorem PG_laws_toBinS {N : Nat} {a0 : List DBin} {v : (List DBin)} (h : F_laws_toBinS N a0 = some v) : P_laws_toBinS N a0 = true ∧ G_laws_toBinS N a0 = v := by unfold P_laws_toBinS G_laws_toBinS; rw [h, lock_eq, lock_eq]; exact ⟨rfl, rfl⟩
def o_laws_toBinS (N : Nat) : List V → Bool × V := mkO T_laws_toBinS R_laws_toBinS (fun (x : List DBin) => P_laws_toBinS N x) (fun (x : List DBin) => G_laws_toBinS N x)
theorem laws_toBinS_entry (N : Nat) : Entry Try.prog 22 (o_laws_toBinS N) := Entry.of fun (x : List DBin) h =>
  Pf.of_run hm Try.func22 okFn_laws_toBinS B_laws_toBinS_ok B_laws_toBinS_wf (O_laws_toBinS_ok N) rfl ((F_laws_toBinS_run N x).trans (FG_laws_toBinS x h))
/-! loop.example/g00526/laws.toCore -/
abbrev T_laws_toCore : List GT := [tCore]
abbrev R_laws_toCore : List GT := [tCore]
def fin_laws_toCore : Fr2 → Hp → Option DCore := finF R_laws_toCore [.cell 2 5 true]
def O_laws_toCore (N : Nat) : Orac := orc [(61, o_laws_toInt64S N), (22, o_laws_toBinS N)] []
theorem O_laws_toCore_ok (N : Nat) : OrcOk Try.prog (O_laws_toCore N) := OrcOk.of ⟨laws_toInt64S_entry N, laws_toBinS_entry N, trivial⟩ trivial
def τ_laws_toCore : Nat → Option GT := fun _ => none
def B_laws_toCore : F2 := ⟨22, 1, [.cell 2 5 true], τ_laws_toCore,
    .seq (.reg .reg [.op (some 1) (.box (.t 0)),
      .op (some 2) (.aloc [.n .i64 0, .l 0 0 0, .l 0 0 0, .n .i64 0, .n .i64 0])])
    (.seq (.reg .reg [.op (some 3) (.aloc [.n .i64 0, .l 0 0 0, .l 0 0 0, .n .i64 0, .n .i64 0])])
    (.seq (.reg .reg [.op (some 4) (.fad 0 (.t 1)),
      .op (some 5) (.load 1 false (.t 4)),
      .op (some 6) (.fad 0 (.t 3)),
      .op none (.stor 1 (.t 6) (.t 5))])
    (.seq (.reg .reg [.op (some 7) (.fad 1 (.t 1)),
      .op (some 8) (.load 1 false (.t 7)),
      .op (some 9) (.call (.c (.f 61 [])) [.t 8]),
      .op (some 10) (.fad 1 (.t 3)),
      .op none (.stor 1 (.t 10) (.t 9))])
    (.seq (.reg .reg [.op (some 11) (.fad 2 (.t 1)),
      .op (some 12) (.load 1 false (.t 11)),
      .op (some 13) (.call (.c (.f 22 [])) [.t 12]),
      .op (some 14) (.fad 2 (.t 3)),
      .op none (.stor 1 (.t 14) (.t 13))])
    (.seq (.reg .reg [.op (some 15) (.fad 3 (.t 1)),
      .op (some 16) (.load 1 false (.t 15)),
      .op (some 17) (.fad 3 (.t 3)),
      .op none (.stor 1 (.t 17) (.t 16))])
    (.seq (.reg .reg [.op (some 18) (.fad 4 (.t 1)),
      .op (some 19) (.load 1 false (.t 18)),
      .op (some 20) (.fad 4 (.t 3)),
      .op none (.stor 1 (.t 20) (.t 19))])
    (.seq (.reg .reg [.op (some 21) (.load 5 true (.t 3)),
      .op none (.stor 5 (.t 2) (.t 21))])
    (.ret))))))))⟩
theorem B_laws_toCore_ok : checkFn Try.prog Try.f17 B_laws_toCore.toA = true := by kernel_rfl
theorem B_laws_toCore_wf : B_laws_toCore.body.wf = true := by kernel_rfl
theorem okFn_laws_toCore : okFn Try.prog 17 = true := by kernel_rfl
def F_laws_toCore (N : Nat) (a0 : DCore) : Option DCore :=
  let r1 : List Int := (G_laws_toInt64S N a0.2.1)
  chk (P_laws_toInt64S N a0.2.1) <|
  let r2 : List DBin := (G_laws_toBinS N a0.2.2.1)
  chk (P_laws_toBinS N a0.2.2.1) <|
  some (a0.1, r1, r2, a0.2.2.2.1, a0.2.2.2.2)
theorem F_laws_toCore_run (N : Nat) (a0 : DCore) :
    runF (O_laws_toCore N) N B_laws_toCore R_laws_toCore (vals T_laws_toCore a0) = F_laws_toCore N a0 := by kernel_rfl
def P_laws_toCore (N : Nat) (a0 : DCore) : Bool := lock (F_laws_toCore N a0).isSome
def G_laws_toCore (N : Nat) (a0 : DCore) : DCore := lock ((F_laws_toCore N a0).getD dCore)
theorem FG_laws_toCore {N : Nat} (a0 : DCore) (h : P_laws_toCore N a0 = true) : F_laws_toCore N a0 = some (G_laws_toCore N a0) := by unfold P_laws_toCore at h; unfold G_laws_toCore; rw [lock_eq] at h ⊢; exact some_of_isSome h
theorem PG_laws_toCore {N : Nat} {a0 : DCore} {v : DCore} (h : F_laws_toCore N a0 = some v) : P_laws_toCore N a0 = true ∧ G_laws_toCore N a0 = v := by unfold P_laws_toCore G_laws_toCore; rw [h, lock_eq, lock_eq]; exact ⟨rfl, rfl⟩
def o_laws_toCore (N : Nat) : List V → Bool × V := mkO T_laws_toCore R_laws_toCore (fun (x : DCore) => P_laws_toCore N x) (fun (x : DCore) => G_laws_toCore N x)
theorem laws_toCore_entry (N : Nat) : Entry Try.prog 17 (o_laws_toCore N) := Entry.of fun (x : DCore) h =>
  Pf.of_run hm Try.func17 okFn_laws_toCore B_laws_toCore_ok B_laws_toCore_wf (O_laws_toCore_ok N) rfl ((F_laws_toCore_run N x).trans (FG_laws_toCore x h))
/-! loop.example/g00526/spec.l1In -/
abbrev T_spec_l1In : List GT := [(.i .i64), (.i .i64), (.i .i64)]
abbrev R_spec_l1In : List GT := [.b]
def fin_spec_l1In : Fr2 → Hp → Option Bool := finF R_spec_l1In [.t 6]
def O_spec_l1In (N : Nat) : Orac := orc [] []
theorem O_spec_l1In_ok (N : Nat) : OrcOk Try.prog (O_spec_l1In N) := OrcOk.of trivial trivial
def τ_spec_l1In : Nat → Option GT := fun _ => none
def B_spec_l1In : F2 := ⟨15, 3, [.t 6], τ_spec_l1In,
    .seq (.reg .reg [.op (some 6) (.mov (.c (.b false)))])
    (.seq (.reg .reg [.op (some 7) (.mov (.t 0)),
      .op (some 8) (.mov (.t 1)),
      .op (some 9) (.bin .geq (.t 7) (.t 8)),
      .op (some 10) (.mov (.t 9)),
      .br 10 true [.op (some 11) (.mov (.t 0)), .op (some 12) (.mov (.t 2)), .op (some 13) (.bin .leq (.t 11) (.t 12))] [11, 12, 13] 14 13,
      .op (some 6) (.mov (.t 14))])
    (.ret))⟩
theorem B_spec_l1In_ok : checkFn Try.prog Try.f48 B_spec_l1In.toA = true := by kernel_rfl
theorem B_spec_l1In_wf : B_spec_l1In.body.wf = true := by kernel_rfl
theorem okFn_spec_l1In : okFn Try.prog 48 = true := by kernel_rfl
def F_spec_l1In (N : Nat) (a0 : Int) (a1 : Int) (a2 : Int) : Option Bool :=
  some ((ile a1 a0) && (ile a0 a2))
theorem F_spec_l1In_run (N : Nat) (a0 : Int) (a1 : Int) (a2 : Int) :
    runF (O_spec_l1In N) N B_spec_l1In R_spec_l1In (vals T_spec_l1In (a0, a1, a2)) = F_spec_l1In N a0 a1 a2 := by kernel_rfl
def G_spec_l1In (a0 : Int) (a1 : Int) (a2 : Int) : Bool :=
  ((ile a1 a0) && (ile a0 a2))
theorem FG_spec_l1In (N : Nat) (a0 : Int) (a1 : Int) (a2 : Int) : F_spec_l1In N a0 a1 a2 = some (G_spec_l1In a0 a1 a2) := by
  first | rfl | (simp only [F_spec_l1In, G_spec_l1In, cond_some]; done) | (unfold F_spec_l1In G_spec_l1In; simp only [cond_some]; done)
def o_spec_l1In : List V → Bool × V := mkO T_spec_l1In R_spec_l1In (fun (x : (Int × Int × Int)) => true) (fun (x : (Int × Int × Int)) => G_spec_l1In x.1 x.2.1 x.2.2)
theorem spec_l1In_entry : Entry Try.prog 48 o_spec_l1In := Entry.of fun (x : (Int × Int × Int)) _ =>
  Pf.of_run hm Try.func48 okFn_spec_l1In B_spec_l1In_ok B_spec_l1In_wf (O_spec_l1In_ok 0) rfl ((F_spec_l1In_run 0 x.1 x.2.1 x.2.2).trans (FG_spec_l1In 0 x.1 x.2.1 x.2.2))
/-! loop.example/g00526/spec.l1Word -/
abbrev T_spec_l1Word : List GT := [(.i .i64)]
abbrev R_spec_l1Word : List GT := [.b]
def fin_spec_l1Word : Fr2 → Hp → Option Bool := finF R_spec_l1Word [.t 2]
def O_spec_l1Word (N : Nat) : Orac := orc [(48, o_spec_l1In)] []
theorem O_spec_l1Word_ok (N : Nat) : OrcOk Try.prog (O_spec_l1Word N) := OrcOk.of ⟨spec_l1In_entry, trivial⟩ trivial
def τ_spec_l1Word : Nat → Option GT := fun _ => none
def B_spec_l1Word : F2 := ⟨5, 1, [.t 2], τ_spec_l1Word,
    .seq (.reg .reg [.op (some 2) (.mov (.c (.b false)))])
    (.seq (.reg .reg [.op (some 3) (.mov (.t 0)),
      .op (some 4) (.call (.c (.f 48 [])) [.t 3, .c (.n .i64 (-2147483648)), .c (.n .i64 2147483647)]),
      .op (some 2) (.mov (.t 4))])
    (.ret))⟩
theorem B_spec_l1Word_ok : checkFn Try.prog Try.f57 B_spec_l1Word.toA = true := by kernel_rfl
theorem B_spec_l1Word_wf : B_spec_l1Word.body.wf = true := by kernel_rfl
theorem okFn_spec_l1Word : okFn Try.prog 57 = true := by kernel_rfl
def F_spec_l1Word (N : Nat) (a0 : Int) : Option Bool :=
  some (G_spec_l1In a0 (-2147483648 : Int) (2147483647 : Int))
theorem F_spec_l1Word_run (N : Nat) (a0 : Int) :
    runF (O_spec_l1Word N) N B_spec_l1Word R_spec_l1Word (vals T_spec_l1Word a0) = F_spec_l1Word N a0 := by kernel_rfl
def G_spec_l1Word (a0 : Int) : Bool :=
  (G_spec_l1In a0 (-2147483648 : Int) (2147483647 : Int))
theorem FG_spec_l1Word (N : Nat) (a0 : Int) : F_spec_l1Word N a0 = some (G_spec_l1Word a0) := by
  first | rfl | (simp only [F_spec_l1Word, G_spec_l1Word, cond_some]; done) | (unfold F_spec_l1Word G_spec_l1Word; simp only [cond_some]; done)
def o_spec_l1Word : List V → Bool × V := mkO T_spec_l1Word R_spec_l1Word (fun (x : Int) => true) (fun (x : Int) => G_spec_l1Word x)
theorem spec_l1Word_entry : Entry Try.prog 57 o_spec_l1Word := Entry.of fun (x : Int) _ =>
  Pf.of_run hm Try.func57 okFn_spec_l1Word B_spec_l1Word_ok B_spec_l1Word_wf (O_spec_l1Word_ok 0) rfl ((F_spec_l1Word_run 0 x).trans (FG_spec_l1Word 0 x))
/-! loop.example/g00526/spec.l11Place -/
abbrev T_spec_l11Place : List GT := [(.i .i64)]
abbrev R_spec_l11Place : List GT := [.b]
def fin_spec_l11Place : Fr2 → Hp → Option Bool := finF R_spec_l11Place [.t 2]
def O_spec_l11Place (N : Nat) : Orac := orc [(48, o_spec_l1In)] []
theorem O_spec_l11Place_ok (N : Nat) : OrcOk Try.prog (O_spec_l11Place N) := OrcOk.of ⟨spec_l1In_entry, trivial⟩ trivial
def τ_spec_l11Place : Nat → Option GT := fun _ => none
def B_spec_l11Place : F2 := ⟨5, 1, [.t 2], τ_spec_l11Place,
    .seq (.reg .reg [.op (some 2) (.mov (.c (.b false)))])
    (.seq (.reg .reg [.op (some 3) (.mov (.t 0)),
      .op (some 4) (.call (.c (.f 48 [])) [.t 3, .c (.n .i64 0), .c (.n .i64 300)]),
      .op (some 2) (.mov (.t 4))])
    (.ret))⟩
theorem B_spec_l11Place_ok : checkFn Try.prog Try.f58 B_spec_l11Place.toA = true := by kernel_rfl
theorem B_spec_l11Place_wf : B_spec_l11Place.body.wf = true := by kernel_rfl
theorem okFn_spec_l11Place : okFn Try.prog 58 = true := by kernel_rfl
def F_spec_l11Place (N : Nat) (a0 : Int) : Option Bool :=
  some (G_spec_l1In a0 (0 : Int) (300 : Int))
theorem F_spec_l11Place_run (N : Nat) (a0 : Int) :
    runF (O_spec_l11Place N) N B_spec_l11Place R_spec_l11Place (vals T_spec_l11Place a0) = F_spec_l11Place N a0 := by kernel_rfl
def G_spec_l11Place (a0 : Int) : Bool :=
  (G_spec_l1In a0 (0 : Int) (300 : Int))
theorem FG_spec_l11Place (N : Nat) (a0 : Int) : F_spec_l11Place N a0 = some (G_spec_l11Place a0) := by
  first | rfl | (simp only [F_spec_l11Place, G_spec_l11Place, cond_some]; done) | (unfold F_spec_l11Place G_spec_l11Place; simp only [cond_some]; done)
def o_spec_l11Place : List V → Bool × V := mkO T_spec_l11Place R_spec_l11Place (fun (x : Int) => true) (fun (x : Int) => G_spec_l11Place x)
theorem spec_l11Place_entry : Entry Try.prog 58 o_spec_l11Place := Entry.of fun (x : Int) _ =>
  Pf.of_run hm Try.func58 okFn_spec_l11Place B_spec_l11Place_ok B_spec_l11Place_wf (O_spec_l11Place_ok 0) rfl ((F_spec_l11Place_run 0 x).trans (FG_spec_l11Place 0 x))
/-! loop.example/g00526/spec.NameOk -/
abbrev T_spec_NameOk : List GT := [.s]
abbrev R_spec_NameOk : List GT := [.b]
def fin_spec_NameOk : Fr2 → Hp → Option Bool := finF R_spec_NameOk [.t 2]
def O_spec_NameOk (N : Nat) : Orac := orc [(48, o_spec_l1In)] []
theorem O_spec_NameOk_ok (N : Nat) : OrcOk Try.prog (O_spec_NameOk N) := OrcOk.of ⟨spec_l1In_entry, trivial⟩ trivial
def c_spec_NameOk_1 : C2 :=
    .seq (.seq (.reg .reg [.op (some 4) (.mov (.t 3)),
      .op (some 5) (.mov (.t 0)),
      .op (some 6) (.len true (.t 5)),
      .op (some 7) (.bin .lss (.t 4) (.t 6))])
    (.cond (.t 7) (.skip)
    (.exit 0)))
    (.seq (.block 1 (.seq (.reg .reg [.op (some 10) (.mov (.t 0)),
      .op (some 11) (.mov (.t 3)),
      .op (some 12) (.idx (.t 10) (.t 11)),
      .op (some 13) (.bin .lss (.t 12) (.c (.n .u8 97))),
      .op (some 14) (.mov (.t 13)),
      .br 14 false [.op (some 15) (.mov (.t 0)), .op (some 16) (.mov (.t 3)), .op (some 17) (.idx (.t 15) (.t 16)), .op (some 18) (.bin .gtr (.t 17) (.c (.n .u8 122)))] [15, 16, 17, 18] 19 18])
    (.cond (.t 19) (.seq (.reg .reg [.op (some 2) (.mov (.c (.b false)))])
    (.ret))
    (.skip))))
    (.reg .reg [.op (some 8) (.mov (.t 3)),
      .op (some 9) (.bin .add (.t 8) (.c (.n .i64 1))),
      .op (some 3) (.mov (.t 9))]))
def c_spec_NameOk_2 : C2 :=
    .seq (.reg .reg [.op (some 20) (.mov (.t 0)),
      .op (some 21) (.len true (.t 20)),
      .op (some 22) (.call (.c (.f 48 [])) [.t 21, .c (.n .i64 1), .c (.n .i64 8)]),
      .op (some 2) (.mov (.t 22))])
    (.ret)
def τ_spec_NameOk : Nat → Option GT := fun _ => none
def B_spec_NameOk : F2 := ⟨23, 1, [.t 2], τ_spec_NameOk,
    .seq (.reg .reg [.op (some 2) (.mov (.c (.b false)))])
    (.seq (.seq (.reg .reg [.op (some 3) (.mov (.c (.n .i64 0)))])
    (.block 0 (.loop [0, 3] [] [0] c_spec_NameOk_1)))
    (c_spec_NameOk_2))⟩
theorem B_spec_NameOk_ok : checkFn Try.prog Try.f76 B_spec_NameOk.toA = true := by kernel_rfl
theorem B_spec_NameOk_wf : B_spec_NameOk.body.wf = true := by kernel_rfl
theorem okFn_spec_NameOk : okFn Try.prog 76 = true := by kernel_rfl
def spec_NameOk_l1s (r0 : Int → Option Bool) (k0_0 : Option Bool) (N : Nat) (a0 : ByteArray) (v3_1 : Int) : Option Bool :=
  bif (ilt v3_1 (a0.size : Int)) then
    chk (inb v3_1 a0.size) <|
    chk ((inb v3_1 a0.size) || (ilt ((a0[(v3_1.toNat)]!).toNat : Int) (97 : Int))) <|
    bif ((ilt ((a0[(v3_1.toNat)]!).toNat : Int) (97 : Int)) || (ilt (122 : Int) ((a0[(v3_1.toNat)]!).toNat : Int))) then
      some false
    else
      r0 (w64 (v3_1 + (1 : Int)))
  else
    k0_0
theorem spec_NameOk_l1s_run (N : Nat) (C0 : Fr2 → Hp → Option Bool) (K0 : Option Nat → Fr2 → Hp → Option Bool) (a0 : ByteArray) (v3_1 : Int) :
    rcode (O_spec_NameOk N) τ_spec_NameOk N fin_spec_NameOk c_spec_NameOk_1 [(0, .s a0), (3, .n .i64 v3_1)] ⟨1, []⟩ (roundK [0, 3] [] [0] C0 K0) = spec_NameOk_l1s (fun v3_1 => C0 [(0, .s a0), (3, .n .i64 v3_1)] ⟨1, []⟩) (K0 (some 0) [(0, .s a0)] ⟨1, []⟩) N a0 v3_1 := by kernel_rfl
def spec_NameOk_x1_0 (N : Nat) (a0 : ByteArray) : Option Bool :=
  some (G_spec_l1In (a0.size : Int) (1 : Int) (8 : Int))
theorem spec_NameOk_x1_0_run (N : Nat) (a0 : ByteArray) :
    (blockK 0 (seqK' (fun fr H K => rcode (O_spec_NameOk N) τ_spec_NameOk N fin_spec_NameOk c_spec_NameOk_2 fr H K) (finK R_spec_NameOk [.t 2]))) (some 0) [(0, .s a0)] ⟨1, []⟩ = spec_NameOk_x1_0 N a0 := by kernel_rfl
def spec_NameOk_l1 (k0_0 : Option Bool) (N : Nat) (a0 : ByteArray) : Nat → Int → Option Bool
  | 0, _ => none
  | n + 1, v3_1 => spec_NameOk_l1s (spec_NameOk_l1 k0_0 N a0 n) k0_0 N a0 v3_1
def spec_NameOk_h1 (N : Nat) (a0 : ByteArray) (v3_1 : Int) : Option Bool :=
  spec_NameOk_l1 (spec_NameOk_x1_0 N a0) N a0 N v3_1
theorem spec_NameOk_l1_run (N : Nat)  (K : Option Nat → Fr2 → Hp → Option Bool) (a0 : ByteArray) : ∀ (n : Nat) (v3_1 : Int),
    rloop (fun fr H K => rcode (O_spec_NameOk N) τ_spec_NameOk N fin_spec_NameOk c_spec_NameOk_1 fr H K) [0, 3] [] [0] K n [(0, .s a0), (3, .n .i64 v3_1)] ⟨1, []⟩ = spec_NameOk_l1 (K (some 0) [(0, .s a0)] ⟨1, []⟩) N a0 n v3_1 := by
  intro n
  induction n with
  | zero => intro v3_1; kernel_rfl
  | succ n ih => intro v3_1; exact (spec_NameOk_l1s_run N (rloop (fun fr H K => rcode (O_spec_NameOk N) τ_spec_NameOk N fin_spec_NameOk c_spec_NameOk_1 fr H K) [0, 3] [] [0] K n) K a0 v3_1).trans (congrArg (fun r => spec_NameOk_l1s r (K (some 0) [(0, .s a0)] ⟨1, []⟩) N a0 v3_1) (funext fun v3_1 => ih v3_1))
theorem spec_NameOk_h1_run (N : Nat) (a0 : ByteArray) (v3_1 : Int) : rloop (fun fr H K => rcode (O_spec_NameOk N) τ_spec_NameOk N fin_spec_NameOk c_spec_NameOk_1 fr H K) [0, 3] [] [0] (blockK 0 (seqK' (fun fr H K => rcode (O_spec_NameOk N) τ_spec_NameOk N fin_spec_NameOk c_spec_NameOk_2 fr H K) (finK R_spec_NameOk [.t 2]))) N [(0, .s a0), (3, .n .i64 v3_1)] ⟨1, []⟩ = spec_NameOk_h1 N a0 v3_1 :=
  ((spec_NameOk_l1_run N (blockK 0 (seqK' (fun fr H K => rcode (O_spec_NameOk N) τ_spec_NameOk N fin_spec_NameOk c_spec_NameOk_2 fr H K) (finK R_spec_NameOk [.t 2]))) a0 N v3_1)).trans (congrArg (fun h => spec_NameOk_l1 h N a0 N v3_1) (spec_NameOk_x1_0_run N a0))
def F_spec_NameOkR (N : Nat) (spec_NameOk_h1 : ByteArray → Int → Option Bool) (a0 : ByteArray) : Option Bool :=
  spec_NameOk_h1 a0 (0 : Int)
def F_spec_NameOk (N : Nat) (a0 : ByteArray) : Option Bool := F_spec_NameOkR N (spec_NameOk_h1 N) a0
theorem F_spec_NameOk_raw (N : Nat) (a0 : ByteArray) :
    runF (O_spec_NameOk N) N B_spec_NameOk R_spec_NameOk (vals T_spec_NameOk a0) = F_spec_NameOkR N (fun a0 v3_1 => rloop (fun fr H K => rcode (O_spec_NameOk N) τ_spec_NameOk N fin_spec_NameOk c_spec_NameOk_1 fr H K) [0, 3] [] [0] (blockK 0 (seqK' (fun fr H K => rcode (O_spec_NameOk N) τ_spec_NameOk N fin_spec_NameOk c_spec_NameOk_2 fr H K) (finK R_spec_NameOk [.t 2]))) N [(0, .s a0), (3, .n .i64 v3_1)] ⟨1, []⟩) a0 := by kernel_rfl
theorem F_spec_NameOk_run (N : Nat) (a0 : ByteArray) :
    runF (O_spec_NameOk N) N B_spec_NameOk R_spec_NameOk (vals T_spec_NameOk a0) = F_spec_NameOk N a0 :=
  (F_spec_NameOk_raw N a0).trans (congrArg (fun h => F_spec_NameOkR N h a0) (funext fun a0 => funext fun v3_1 => spec_NameOk_h1_run N a0 v3_1))
def P_spec_NameOk (N : Nat) (a0 : ByteArray) : Bool := lock (F_spec_NameOk N a0).isSome
def G_spec_NameOk (N : Nat) (a0 : ByteArray) : Bool := lock ((F_spec_NameOk N a0).getD false)
theorem FG_spec_NameOk {N : Nat} (a0 : ByteArray) (h : P_spec_NameOk N a0 = true) : F_spec_NameOk N a0 = some (G_spec_NameOk N a0) := by unfold P_spec_NameOk at h; unfold G_spec_NameOk; rw [lock_eq] at h ⊢; exact some_of_isSome h
theorem PG_spec_NameOk {N : Nat} {a0 : ByteArray} {v : Bool} (h : F_spec_NameOk N a0 = some v) : P_spec_NameOk N a0 = true ∧ G_spec_NameOk N a0 = v := by unfold P_spec_NameOk G_spec_NameOk; rw [h, lock_eq, lock_eq]; exact ⟨rfl, rfl⟩
def o_spec_NameOk (N : Nat) : List V → Bool × V := mkO T_spec_NameOk R_spec_NameOk (fun (x : ByteArray) => P_spec_NameOk N x) (fun (x : ByteArray) => G_spec_NameOk N x)
theorem spec_NameOk_entry (N : Nat) : Entry Try.prog 76 (o_spec_NameOk N) := Entry.of fun (x : ByteArray) h =>
  Pf.of_run hm Try.func76 okFn_spec_NameOk B_spec_NameOk_ok B_spec_NameOk_wf (O_spec_NameOk_ok N) rfl ((F_spec_NameOk_run N x).trans (FG_spec_NameOk x h))
/-! loop.example/g00526/spec.BinsOk -/
abbrev T_spec_BinsOk : List GT := [(.sl tBin)]
abbrev R_spec_BinsOk : List GT := [.b]
def fin_spec_BinsOk : Fr2 → Hp → Option Bool := finF R_spec_BinsOk [.t 2]
def O_spec_BinsOk (N : Nat) : Orac := orc [(76, o_spec_NameOk N), (57, o_spec_l1Word)] []
theorem O_spec_BinsOk_ok (N : Nat) : OrcOk Try.prog (O_spec_BinsOk N) := OrcOk.of ⟨spec_NameOk_entry N, spec_l1Word_entry, trivial⟩ trivial
def c_spec_BinsOk_1 : C2 :=
    .seq (.seq (.reg .reg [.op (some 4) (.mov (.t 3)),
      .op (some 5) (.mov (.t 0)),
      .op (some 6) (.len false (.t 5)),
      .op (some 7) (.bin .lss (.t 4) (.t 6))])
    (.cond (.t 7) (.skip)
    (.exit 0)))
    (.seq (.block 1 (.seq (.reg (.plan (.take 0 (.take 1 (.take 2 (.take 3 (.take 4 (.all [(5, .take 6 (.take 7 (.take 8 (.take 9 (.take 10 (.take 11 (.take 12 (.all [(13, .take 14 (.take 15 (.take 16 (.take 17 (.take 18 (.take 19 (.take 20 (.take 21 (.take 22 (.take 23 (.take 24 (.take 25 (.take 26 (.take 27 (.take 28 (.take 29 (.take 30 (.take 31 (.take 32 (.take 33 (.done)))))))))))))))))))))]))))))))])))))) [0, 1, 2, 3, 4, 8, 9, 10, 11, 12, 17, 18, 19, 20, 21, 22, 23, 24, 25, 26, 27, 28, 29, 30, 31]) [.op (some 10) (.mov (.t 0)),
      .op (some 11) (.mov (.t 3)),
      .op (some 12) (.iad 2 (.t 10) (.t 11)),
      .op (some 13) (.fad 0 (.t 12)),
      .op (some 14) (.load 1 false (.t 13)),
      .op (some 15) (.call (.c (.f 76 [])) [.t 14]),
      .op (some 16) (.un .not (.t 15)),
      .op (some 17) (.mov (.t 16)),
      .br 17 false [.op (some 18) (.mov (.t 0)), .op (some 19) (.mov (.t 3)), .op (some 20) (.iad 2 (.t 18) (.t 19)), .op (some 21) (.fad 1 (.t 20)), .op (some 22) (.load 1 false (.t 21)), .op (some 23) (.call (.c (.f 57 [])) [.t 22]), .op (some 24) (.un .not (.t 23))] [18, 19, 20, 21, 22, 23, 24] 25 24,
      .op (some 26) (.mov (.t 25)),
      .br 26 false [.op (some 27) (.mov (.t 3)), .op (some 28) (.bin .gtr (.t 27) (.c (.n .i64 0))), .op (some 29) (.mov (.t 28)), .br 29 true [.op (some 30) (.mov (.t 0)), .op (some 31) (.mov (.t 3)), .op (some 32) (.iad 2 (.t 30) (.t 31)), .op (some 33) (.fad 0 (.t 32)), .op (some 34) (.load 1 false (.t 33)), .op (some 35) (.mov (.t 0)), .op (some 36) (.mov (.t 3)), .op (some 37) (.bin .sub (.t 36) (.c (.n .i64 1))), .op (some 38) (.iad 2 (.t 35) (.t 37)), .op (some 39) (.fad 0 (.t 38)), .op (some 40) (.load 1 false (.t 39)), .op (some 41) (.bin .leq (.t 34) (.t 40))] [30, 31, 32, 33, 34, 35, 36, 37, 38, 39, 40, 41] 42 41] [27, 28, 29, 30, 31, 32, 33, 34, 35, 36, 37, 38, 39, 40, 41, 42] 43 42])
    (.cond (.t 43) (.seq (.reg .reg [.op (some 2) (.mov (.c (.b false)))])
    (.ret))
    (.skip))))
    (.reg .reg [.op (some 8) (.mov (.t 3)),
      .op (some 9) (.bin .add (.t 8) (.c (.n .i64 1))),
      .op (some 3) (.mov (.t 9))]))
def c_spec_BinsOk_2 : C2 :=
    .seq (.reg .reg [.op (some 44) (.mov (.t 0)),
      .op (some 45) (.len false (.t 44)),
      .op (some 46) (.bin .leq (.t 45) (.c (.n .i64 12))),
      .op (some 2) (.mov (.t 46))])
    (.ret)
def τ_spec_BinsOk : Nat → Option GT := fun _ => none
def B_spec_BinsOk : F2 := ⟨47, 1, [.t 2], τ_spec_BinsOk,
    .seq (.reg .reg [.op (some 2) (.mov (.c (.b false)))])
    (.seq (.seq (.reg .reg [.op (some 3) (.mov (.c (.n .i64 0)))])
    (.block 0 (.loop [0, 3] [] [0] c_spec_BinsOk_1)))
    (c_spec_BinsOk_2))⟩
theorem B_spec_BinsOk_ok : checkFn Try.prog Try.f59 B_spec_BinsOk.toA = true := by kernel_rfl
theorem B_spec_BinsOk_wf : B_spec_BinsOk.body.wf = true := by kernel_rfl
theorem okFn_spec_BinsOk : okFn Try.prog 59 = true := by kernel_rfl
def spec_BinsOk_l1s (r0 : Int → Option Bool) (k0_0 : Option Bool) (N : Nat) (a0 : List DBin) (v3_1 : Int) : Option Bool :=
  bif (ilt v3_1 ((a0.length) : Int)) then
    let x1 : DBin := (a0.getD (v3_1.toNat) dBin)
    let x2 : DBin := (a0.getD (v3_1.toNat) dBin)
    let x3 : DBin := (a0.getD (v3_1.toNat) dBin)
    let x4 : DBin := (a0.getD ((w64 (v3_1 - (1 : Int))).toNat) dBin)
    chk (inb v3_1 (a0.length)) <|
    chk (P_spec_NameOk N x1.1) <|
    chk ((inb v3_1 (a0.length)) || !(!(!(G_spec_NameOk N x1.1)))) <|
    chk ((inb v3_1 (a0.length)) || !((!((!(G_spec_NameOk N x1.1)) || (!(G_spec_l1Word x2.2)))) && (ilt (0 : Int) v3_1))) <|
    chk ((inb (w64 (v3_1 - (1 : Int))) (a0.length)) || !((!((!(G_spec_NameOk N x1.1)) || (!(G_spec_l1Word x2.2)))) && (ilt (0 : Int) v3_1))) <|
    bif (((!(G_spec_NameOk N x1.1)) || (!(G_spec_l1Word x2.2))) || ((ilt (0 : Int) v3_1) && ((Op.bytesLess x3.1.toList x4.1.toList) || decide (x3.1 = x4.1)))) then
      some false
    else
      r0 (w64 (v3_1 + (1 : Int)))
  else
    k0_0
theorem spec_BinsOk_l1s_run (N : Nat) (C0 : Fr2 → Hp → Option Bool) (K0 : Option Nat → Fr2 → Hp → Option Bool) (a0 : List DBin) (v3_1 : Int) :
    rcode (O_spec_BinsOk N) τ_spec_BinsOk N fin_spec_BinsOk c_spec_BinsOk_1 [(0, .q tBin a0), (3, .n .i64 v3_1)] ⟨1, []⟩ (roundK [0, 3] [] [0] C0 K0) = spec_BinsOk_l1s (fun v3_1 => C0 [(0, .q tBin a0), (3, .n .i64 v3_1)] ⟨1, []⟩) (K0 (some 0) [(0, .q tBin a0)] ⟨1, []⟩) N a0 v3_1 := by kernel_rfl
def spec_BinsOk_x1_0 (N : Nat) (a0 : List DBin) : Option Bool :=
  some (ile ((a0.length) : Int) (12 : Int))
theorem spec_BinsOk_x1_0_run (N : Nat) (a0 : List DBin) :
    (blockK 0 (seqK' (fun fr H K => rcode (O_spec_BinsOk N) τ_spec_BinsOk N fin_spec_BinsOk c_spec_BinsOk_2 fr H K) (finK R_spec_BinsOk [.t 2]))) (some 0) [(0, .q tBin a0)] ⟨1, []⟩ = spec_BinsOk_x1_0 N a0 := by kernel_rfl
def spec_BinsOk_l1 (k0_0 : Option Bool) (N : Nat) (a0 : List DBin) : Nat → Int → Option Bool
  | 0, _ => none
  | n + 1, v3_1 => spec_BinsOk_l1s (spec_BinsOk_l1 k0_0 N a0 n) k0_0 N a0 v3_1
def spec_BinsOk_h1 (N : Nat) (a0 : List DBin) (v3_1 : Int) : Option Bool :=
  spec_BinsOk_l1 (spec_BinsOk_x1_0 N a0) N a0 N v3_1
theorem spec_BinsOk_l1_run (N : Nat)  (K : Option Nat → Fr2 → Hp → Option Bool) (a0 : List DBin) : ∀ (n : Nat) (v3_1 : Int),
    rloop (fun fr H K => rcode (O_spec_BinsOk N) τ_spec_BinsOk N fin_spec_BinsOk c_spec_BinsOk_1 fr H K) [0, 3] [] [0] K n [(0, .q tBin a0), (3, .n .i64 v3_1)] ⟨1, []⟩ = spec_BinsOk_l1 (K (some 0) [(0, .q tBin a0)] ⟨1, []⟩) N a0 n v3_1 := by
  intro n
  induction n with
  | zero => intro v3_1; kernel_rfl
  | succ n ih => intro v3_1; exact (spec_BinsOk_l1s_run N (rloop (fun fr H K => rcode (O_spec_BinsOk N) τ_spec_BinsOk N fin_spec_BinsOk c_spec_BinsOk_1 fr H K) [0, 3] [] [0] K n) K a0 v3_1).trans (congrArg (fun r => spec_BinsOk_l1s r (K (some 0) [(0, .q tBin a0)] ⟨1, []⟩) N a0 v3_1) (funext fun v3_1 => ih v3_1))
theorem spec_BinsOk_h1_run (N : Nat) (a0 : List DBin) (v3_1 : Int) : rloop (fun fr H K => rcode (O_spec_BinsOk N) τ_spec_BinsOk N fin_spec_BinsOk c_spec_BinsOk_1 fr H K) [0, 3] [] [0] (blockK 0 (seqK' (fun fr H K => rcode (O_spec_BinsOk N) τ_spec_BinsOk N fin_spec_BinsOk c_spec_BinsOk_2 fr H K) (finK R_spec_BinsOk [.t 2]))) N [(0, .q tBin a0), (3, .n .i64 v3_1)] ⟨1, []⟩ = spec_BinsOk_h1 N a0 v3_1 :=
  ((spec_BinsOk_l1_run N (blockK 0 (seqK' (fun fr H K => rcode (O_spec_BinsOk N) τ_spec_BinsOk N fin_spec_BinsOk c_spec_BinsOk_2 fr H K) (finK R_spec_BinsOk [.t 2]))) a0 N v3_1)).trans (congrArg (fun h => spec_BinsOk_l1 h N a0 N v3_1) (spec_BinsOk_x1_0_run N a0))
def F_spec_BinsOkR (N : Nat) (spec_BinsOk_h1 : List DBin → Int → Option Bool) (a0 : List DBin) : Option Bool :=
  spec_BinsOk_h1 a0 (0 : Int)
def F_spec_BinsOk (N : Nat) (a0 : List DBin) : Option Bool := F_spec_BinsOkR N (spec_BinsOk_h1 N) a0
theorem F_spec_BinsOk_raw (N : Nat) (a0 : List DBin) :
    runF (O_spec_BinsOk N) N B_spec_BinsOk R_spec_BinsOk (vals T_spec_BinsOk a0) = F_spec_BinsOkR N (fun a0 v3_1 => rloop (fun fr H K => rcode (O_spec_BinsOk N) τ_spec_BinsOk N fin_spec_BinsOk c_spec_BinsOk_1 fr H K) [0, 3] [] [0] (blockK 0 (seqK' (fun fr H K => rcode (O_spec_BinsOk N) τ_spec_BinsOk N fin_spec_BinsOk c_spec_BinsOk_2 fr H K) (finK R_spec_BinsOk [.t 2]))) N [(0, .q tBin a0), (3, .n .i64 v3_1)] ⟨1, []⟩) a0 := by kernel_rfl
theorem F_spec_BinsOk_run (N : Nat) (a0 : List DBin) :
    runF (O_spec_BinsOk N) N B_spec_BinsOk R_spec_BinsOk (vals T_spec_BinsOk a0) = F_spec_BinsOk N a0 :=
  (F_spec_BinsOk_raw N a0).trans (congrArg (fun h => F_spec_BinsOkR N h a0) (funext fun a0 => funext fun v3_1 => spec_BinsOk_h1_run N a0 v3_1))
def P_spec_BinsOk (N : Nat) (a0 : List DBin) : Bool := lock (F_spec_BinsOk N a0).isSome
def G_spec_BinsOk (N : Nat) (a0 : List DBin) : Bool := lock ((F_spec_BinsOk N a0).getD false)
theorem FG_spec_BinsOk {N : Nat} (a0 : List DBin) (h : P_spec_BinsOk N a0 = true) : F_spec_BinsOk N a0 = some (G_spec_BinsOk N a0) := by unfold P_spec_BinsOk at h; unfold G_spec_BinsOk; rw [lock_eq] at h ⊢; exact some_of_isSome h
theorem PG_spec_BinsOk {N : Nat} {a0 : List DBin} {v : Bool} (h : F_spec_BinsOk N a0 = some v) : P_spec_BinsOk N a0 = true ∧ G_spec_BinsOk N a0 = v := by unfold P_spec_BinsOk G_spec_BinsOk; rw [h, lock_eq, lock_eq]; exact ⟨rfl, rfl⟩
def o_spec_BinsOk (N : Nat) : List V → Bool × V := mkO T_spec_BinsOk R_spec_BinsOk (fun (x : List DBin) => P_spec_BinsOk N x) (fun (x : List DBin) => G_spec_BinsOk N x)
theorem spec_BinsOk_entry (N : Nat) : Entry Try.prog 59 (o_spec_BinsOk N) := Entry.of fun (x : List DBin) h =>
  Pf.of_run hm Try.func59 okFn_spec_BinsOk B_spec_BinsOk_ok B_spec_BinsOk_wf (O_spec_BinsOk_ok N) rfl ((F_spec_BinsOk_run N x).trans (FG_spec_BinsOk x h))
/-! loop.example/g00526/spec.l10Fuel -/
abbrev T_spec_l10Fuel : List GT := [(.i .i64)]
abbrev R_spec_l10Fuel : List GT := [.b]
def fin_spec_l10Fuel : Fr2 → Hp → Option Bool := finF R_spec_l10Fuel [.t 2]
def O_spec_l10Fuel (N : Nat) : Orac := orc [(48, o_spec_l1In)] []
theorem O_spec_l10Fuel_ok (N : Nat) : OrcOk Try.prog (O_spec_l10Fuel N) := OrcOk.of ⟨spec_l1In_entry, trivial⟩ trivial
def τ_spec_l10Fuel : Nat → Option GT := fun _ => none
def B_spec_l10Fuel : F2 := ⟨5, 1, [.t 2], τ_spec_l10Fuel,
    .seq (.reg .reg [.op (some 2) (.mov (.c (.b false)))])
    (.seq (.reg .reg [.op (some 3) (.mov (.t 0)),
      .op (some 4) (.call (.c (.f 48 [])) [.t 3, .c (.n .i64 0), .c (.n .i64 400)]),
      .op (some 2) (.mov (.t 4))])
    (.ret))⟩
theorem B_spec_l10Fuel_ok : checkFn Try.prog Try.f60 B_spec_l10Fuel.toA = true := by kernel_rfl
theorem B_spec_l10Fuel_wf : B_spec_l10Fuel.body.wf = true := by kernel_rfl
theorem okFn_spec_l10Fuel : okFn Try.prog 60 = true := by kernel_rfl
def F_spec_l10Fuel (N : Nat) (a0 : Int) : Option Bool :=
  some (G_spec_l1In a0 (0 : Int) (400 : Int))
theorem F_spec_l10Fuel_run (N : Nat) (a0 : Int) :
    runF (O_spec_l10Fuel N) N B_spec_l10Fuel R_spec_l10Fuel (vals T_spec_l10Fuel a0) = F_spec_l10Fuel N a0 := by kernel_rfl
def G_spec_l10Fuel (a0 : Int) : Bool :=
  (G_spec_l1In a0 (0 : Int) (400 : Int))
theorem FG_spec_l10Fuel (N : Nat) (a0 : Int) : F_spec_l10Fuel N a0 = some (G_spec_l10Fuel a0) := by
  first | rfl | (simp only [F_spec_l10Fuel, G_spec_l10Fuel, cond_some]; done) | (unfold F_spec_l10Fuel G_spec_l10Fuel; simp only [cond_some]; done)
def o_spec_l10Fuel : List V → Bool × V := mkO T_spec_l10Fuel R_spec_l10Fuel (fun (x : Int) => true) (fun (x : Int) => G_spec_l10Fuel x)
theorem spec_l10Fuel_entry : Entry Try.prog 60 o_spec_l10Fuel := Entry.of fun (x : Int) _ =>
  Pf.of_run hm Try.func60 okFn_spec_l10Fuel B_spec_l10Fuel_ok B_spec_l10Fuel_wf (O_spec_l10Fuel_ok 0) rfl ((F_spec_l10Fuel_run 0 x).trans (FG_spec_l10Fuel 0 x))
/-! loop.example/g00526/spec.CoreOk -/
abbrev T_spec_CoreOk : List GT := [tCore]
abbrev R_spec_CoreOk : List GT := [.b]
def fin_spec_CoreOk : Fr2 → Hp → Option Bool := finF R_spec_CoreOk [.t 2]
def O_spec_CoreOk (N : Nat) : Orac := orc [(57, o_spec_l1Word), (58, o_spec_l11Place), (59, o_spec_BinsOk N), (60, o_spec_l10Fuel), (48, o_spec_l1In)] []
theorem O_spec_CoreOk_ok (N : Nat) : OrcOk Try.prog (O_spec_CoreOk N) := OrcOk.of ⟨spec_l1Word_entry, spec_l11Place_entry, spec_BinsOk_entry N, spec_l10Fuel_entry, spec_l1In_entry, trivial⟩ trivial
def c_spec_CoreOk_1 : C2 :=
    .seq (.seq (.reg .reg [.op (some 4) (.mov (.t 3)),
      .op (some 5) (.fad 1 (.t 1)),
      .op (some 6) (.load 1 false (.t 5)),
      .op (some 7) (.len false (.t 6)),
      .op (some 8) (.bin .lss (.t 4) (.t 7))])
    (.cond (.t 8) (.skip)
    (.exit 0)))
    (.seq (.block 1 (.seq (.reg .reg [.op (some 11) (.fad 1 (.t 1)),
      .op (some 12) (.load 1 false (.t 11)),
      .op (some 13) (.mov (.t 3)),
      .op (some 14) (.iad 1 (.t 12) (.t 13)),
      .op (some 15) (.load 1 false (.t 14)),
      .op (some 16) (.call (.c (.f 57 [])) [.t 15]),
      .op (some 17) (.un .not (.t 16))])
    (.cond (.t 17) (.seq (.reg .reg [.op (some 2) (.mov (.c (.b false)))])
    (.ret))
    (.skip))))
    (.reg .reg [.op (some 9) (.mov (.t 3)),
      .op (some 10) (.bin .add (.t 9) (.c (.n .i64 1))),
      .op (some 3) (.mov (.t 10))]))
def c_spec_CoreOk_2 : C2 :=
    .seq (.reg .reg [.op (some 18) (.fad 0 (.t 1)),
      .op (some 19) (.load 1 false (.t 18)),
      .op (some 20) (.call (.c (.f 58 [])) [.t 19]),
      .op (some 21) (.mov (.t 20)),
      .br 21 true [.op (some 22) (.fad 1 (.t 1)), .op (some 23) (.load 1 false (.t 22)), .op (some 24) (.len false (.t 23)), .op (some 25) (.bin .leq (.t 24) (.c (.n .i64 12)))] [22, 23, 24, 25] 26 25,
      .op (some 27) (.mov (.t 26)),
      .br 27 true [.op (some 28) (.fad 2 (.t 1)), .op (some 29) (.load 1 false (.t 28)), .op (some 30) (.call (.c (.f 59 [])) [.t 29])] [28, 29, 30] 31 30,
      .op (some 32) (.mov (.t 31)),
      .br 32 true [.op (some 33) (.fad 3 (.t 1)), .op (some 34) (.load 1 false (.t 33)), .op (some 35) (.call (.c (.f 60 [])) [.t 34])] [33, 34, 35] 36 35,
      .op (some 37) (.mov (.t 36)),
      .br 37 true [.op (some 38) (.fad 4 (.t 1)), .op (some 39) (.load 1 false (.t 38)), .op (some 40) (.call (.c (.f 48 [])) [.t 39, .c (.n .i64 0), .c (.n .i64 6)])] [38, 39, 40] 41 40,
      .op (some 2) (.mov (.t 41))])
    (.ret)
def τ_spec_CoreOk : Nat → Option GT := fun _ => none
def B_spec_CoreOk : F2 := ⟨42, 1, [.t 2], τ_spec_CoreOk,
    .seq (.reg .reg [.op (some 1) (.box (.t 0)),
      .op (some 2) (.mov (.c (.b false)))])
    (.seq (.seq (.reg .reg [.op (some 3) (.mov (.c (.n .i64 0)))])
    (.block 0 (.loop [1, 3] [] [1] c_spec_CoreOk_1)))
    (c_spec_CoreOk_2))⟩
theorem B_spec_CoreOk_ok : checkFn Try.prog Try.f16 B_spec_CoreOk.toA = true := by kernel_rfl
theorem B_spec_CoreOk_wf : B_spec_CoreOk.body.wf = true := by kernel_rfl
theorem okFn_spec_CoreOk : okFn Try.prog 16 = true := by kernel_rfl
def spec_CoreOk_l1s (r0 : Int → Option Bool) (k0_0 : Option Bool) (N : Nat) (v3_1 : Int) (pb1_1 : Int) (pb1_1_2 : List Int) (pb1_1_3 : List DBin) (pb1_1_4 : Int) (pb1_1_5 : Int) : Option Bool :=
  bif (ilt v3_1 ((pb1_1_2.length) : Int)) then
    let x1 : Int := (pb1_1_2.getD (v3_1.toNat) (0 : Int))
    chk (inb v3_1 (pb1_1_2.length)) <|
    bif (!(G_spec_l1Word x1)) then
      some false
    else
      r0 (w64 (v3_1 + (1 : Int)))
  else
    k0_0
theorem spec_CoreOk_l1s_run (N : Nat) (C0 : Fr2 → Hp → Option Bool) (K0 : Option Nat → Fr2 → Hp → Option Bool) (v3_1 : Int) (pb1_1 : Int) (pb1_1_2 : List Int) (pb1_1_3 : List DBin) (pb1_1_4 : Int) (pb1_1_5 : Int) :
    rcode (O_spec_CoreOk N) τ_spec_CoreOk N fin_spec_CoreOk c_spec_CoreOk_1 [(1, .p 1 0 0), (3, .n .i64 v3_1)] ⟨2, [(1, .un 5 [[.n .i64 pb1_1, .q (.i .i64) pb1_1_2, .q tBin pb1_1_3, .n .i64 pb1_1_4, .n .i64 pb1_1_5]])]⟩ (roundK [1, 3] [] [1] C0 K0) = spec_CoreOk_l1s (fun v3_1 => C0 [(1, .p 1 0 0), (3, .n .i64 v3_1)] ⟨2, [(1, .un 5 [[.n .i64 pb1_1, .q (.i .i64) pb1_1_2, .q tBin pb1_1_3, .n .i64 pb1_1_4, .n .i64 pb1_1_5]])]⟩) (K0 (some 0) [(1, .p 1 0 0)] ⟨2, [(1, .un 5 [[.n .i64 pb1_1, .q (.i .i64) pb1_1_2, .q tBin pb1_1_3, .n .i64 pb1_1_4, .n .i64 pb1_1_5]])]⟩) N v3_1 pb1_1 pb1_1_2 pb1_1_3 pb1_1_4 pb1_1_5 := by kernel_rfl
def spec_CoreOk_x1_0 (N : Nat) (pb1_1 : Int) (pb1_1_2 : List Int) (pb1_1_3 : List DBin) (pb1_1_4 : Int) (pb1_1_5 : Int) : Option Bool :=
  chk ((P_spec_BinsOk N pb1_1_3) || (!((G_spec_l11Place pb1_1) && (ile ((pb1_1_2.length) : Int) (12 : Int))))) <|
  some (((((G_spec_l11Place pb1_1) && (ile ((pb1_1_2.length) : Int) (12 : Int))) && (G_spec_BinsOk N pb1_1_3)) && (G_spec_l10Fuel pb1_1_4)) && (G_spec_l1In pb1_1_5 (0 : Int) (6 : Int)))
theorem spec_CoreOk_x1_0_run (N : Nat) (pb1_1 : Int) (pb1_1_2 : List Int) (pb1_1_3 : List DBin) (pb1_1_4 : Int) (pb1_1_5 : Int) :
    (blockK 0 (seqK' (fun fr H K => rcode (O_spec_CoreOk N) τ_spec_CoreOk N fin_spec_CoreOk c_spec_CoreOk_2 fr H K) (finK R_spec_CoreOk [.t 2]))) (some 0) [(1, .p 1 0 0)] ⟨2, [(1, .un 5 [[.n .i64 pb1_1, .q (.i .i64) pb1_1_2, .q tBin pb1_1_3, .n .i64 pb1_1_4, .n .i64 pb1_1_5]])]⟩ = spec_CoreOk_x1_0 N pb1_1 pb1_1_2 pb1_1_3 pb1_1_4 pb1_1_5 := by kernel_rfl
def spec_CoreOk_l1 (k0_0 : Option Bool) (N : Nat) (pb1_1 : Int) (pb1_1_2 : List Int) (pb1_1_3 : List DBin) (pb1_1_4 : Int) (pb1_1_5 : Int) : Nat → Int → Option Bool
  | 0, _ => none
  | n + 1, v3_1 => spec_CoreOk_l1s (spec_CoreOk_l1 k0_0 N pb1_1 pb1_1_2 pb1_1_3 pb1_1_4 pb1_1_5 n) k0_0 N v3_1 pb1_1 pb1_1_2 pb1_1_3 pb1_1_4 pb1_1_5
def spec_CoreOk_h1 (N : Nat) (v3_1 : Int) (pb1_1 : Int) (pb1_1_2 : List Int) (pb1_1_3 : List DBin) (pb1_1_4 : Int) (pb1_1_5 : Int) : Option Bool :=
  spec_CoreOk_l1 (spec_CoreOk_x1_0 N pb1_1 pb1_1_2 pb1_1_3 pb1_1_4 pb1_1_5) N pb1_1 pb1_1_2 pb1_1_3 pb1_1_4 pb1_1_5 N v3_1
theorem spec_CoreOk_l1_run (N : Nat)  (K : Option Nat → Fr2 → Hp → Option Bool) (pb1_1 : Int) (pb1_1_2 : List Int) (pb1_1_3 : List DBin) (pb1_1_4 : Int) (pb1_1_5 : Int) : ∀ (n : Nat) (v3_1 : Int),
    rloop (fun fr H K => rcode (O_spec_CoreOk N) τ_spec_CoreOk N fin_spec_CoreOk c_spec_CoreOk_1 fr H K) [1, 3] [] [1] K n [(1, .p 1 0 0), (3, .n .i64 v3_1)] ⟨2, [(1, .un 5 [[.n .i64 pb1_1, .q (.i .i64) pb1_1_2, .q tBin pb1_1_3, .n .i64 pb1_1_4, .n .i64 pb1_1_5]])]⟩ = spec_CoreOk_l1 (K (some 0) [(1, .p 1 0 0)] ⟨2, [(1, .un 5 [[.n .i64 pb1_1, .q (.i .i64) pb1_1_2, .q tBin pb1_1_3, .n .i64 pb1_1_4, .n .i64 pb1_1_5]])]⟩) N pb1_1 pb1_1_2 pb1_1_3 pb1_1_4 pb1_1_5 n v3_1 := by
  intro n
  induction n with
  | zero => intro v3_1; kernel_rfl
  | succ n ih => intro v3_1; exact (spec_CoreOk_l1s_run N (rloop (fun fr H K => rcode (O_spec_CoreOk N) τ_spec_CoreOk N fin_spec_CoreOk c_spec_CoreOk_1 fr H K) [1, 3] [] [1] K n) K v3_1 pb1_1 pb1_1_2 pb1_1_3 pb1_1_4 pb1_1_5).trans (congrArg (fun r => spec_CoreOk_l1s r (K (some 0) [(1, .p 1 0 0)] ⟨2, [(1, .un 5 [[.n .i64 pb1_1, .q (.i .i64) pb1_1_2, .q tBin pb1_1_3, .n .i64 pb1_1_4, .n .i64 pb1_1_5]])]⟩) N v3_1 pb1_1 pb1_1_2 pb1_1_3 pb1_1_4 pb1_1_5) (funext fun v3_1 => ih v3_1))
theorem spec_CoreOk_h1_run (N : Nat) (v3_1 : Int) (pb1_1 : Int) (pb1_1_2 : List Int) (pb1_1_3 : List DBin) (pb1_1_4 : Int) (pb1_1_5 : Int) : rloop (fun fr H K => rcode (O_spec_CoreOk N) τ_spec_CoreOk N fin_spec_CoreOk c_spec_CoreOk_1 fr H K) [1, 3] [] [1] (blockK 0 (seqK' (fun fr H K => rcode (O_spec_CoreOk N) τ_spec_CoreOk N fin_spec_CoreOk c_spec_CoreOk_2 fr H K) (finK R_spec_CoreOk [.t 2]))) N [(1, .p 1 0 0), (3, .n .i64 v3_1)] ⟨2, [(1, .un 5 [[.n .i64 pb1_1, .q (.i .i64) pb1_1_2, .q tBin pb1_1_3, .n .i64 pb1_1_4, .n .i64 pb1_1_5]])]⟩ = spec_CoreOk_h1 N v3_1 pb1_1 pb1_1_2 pb1_1_3 pb1_1_4 pb1_1_5 :=
  ((spec_CoreOk_l1_run N (blockK 0 (seqK' (fun fr H K => rcode (O_spec_CoreOk N) τ_spec_CoreOk N fin_spec_CoreOk c_spec_CoreOk_2 fr H K) (finK R_spec_CoreOk [.t 2]))) pb1_1 pb1_1_2 pb1_1_3 pb1_1_4 pb1_1_5 N v3_1)).trans (congrArg (fun h => spec_CoreOk_l1 h N pb1_1 pb1_1_2 pb1_1_3 pb1_1_4 pb1_1_5 N v3_1) (spec_CoreOk_x1_0_run N pb1_1 pb1_1_2 pb1_1_3 pb1_1_4 pb1_1_5))
def F_spec_CoreOkR (N : Nat) (spec_CoreOk_h1 : Int → Int → List Int → List DBin → Int → Int → Option Bool) (a0 : DCore) : Option Bool :=
  spec_CoreOk_h1 (0 : Int) a0.1 a0.2.1 a0.2.2.1 a0.2.2.2.1 a0.2.2.2.2
def F_spec_CoreOk (N : Nat) (a0 : DCore) : Option Bool := F_spec_CoreOkR N (spec_CoreOk_h1 N) a0
theorem F_spec_CoreOk_raw (N : Nat) (a0 : DCore) :
    runF (O_spec_CoreOk N) N B_spec_CoreOk R_spec_CoreOk (vals T_spec_CoreOk a0) = F_spec_CoreOkR N (fun v3_1 pb1_1 pb1_1_2 pb1_1_3 pb1_1_4 pb1_1_5 => rloop (fun fr H K => rcode (O_spec_CoreOk N) τ_spec_CoreOk N fin_spec_CoreOk c_spec_CoreOk_1 fr H K) [1, 3] [] [1] (blockK 0 (seqK' (fun fr H K => rcode (O_spec_CoreOk N) τ_spec_CoreOk N fin_spec_CoreOk c_spec_CoreOk_2 fr H K) (finK R_spec_CoreOk [.t 2]))) N [(1, .p 1 0 0), (3, .n .i64 v3_1)] ⟨2, [(1, .un 5 [[.n .i64 pb1_1, .q (.i .i64) pb1_1_2, .q tBin pb1_1_3, .n .i64 pb1_1_4, .n .i64 pb1_1_5]])]⟩) a0 := by kernel_rfl
theorem F_spec_CoreOk_run (N : Nat) (a0 : DCore) :
    runF (O_spec_CoreOk N) N B_spec_CoreOk R_spec_CoreOk (vals T_spec_CoreOk a0) = F_spec_CoreOk N a0 :=
  (F_spec_CoreOk_raw N a0).trans (congrArg (fun h => F_spec_CoreOkR N h a0) (funext fun v3_1 => funext fun pb1_1 => funext fun pb1_1_2 => funext fun pb1_1_3 => funext fun pb1_1_4 => funext fun pb1_1_5 => spec_CoreOk_h1_run N v3_1 pb1_1 pb1_1_2 pb1_1_3 pb1_1_4 pb1_1_5))
def P_spec_CoreOk (N : Nat) (a0 : DCore) : Bool := lock (F_spec_CoreOk N a0).isSome
def G_spec_CoreOk (N : Nat) (a0 : DCore) : Bool := lock ((F_spec_CoreOk N a0).getD false)
theorem FG_spec_CoreOk {N : Nat} (a0 : DCore) (h : P_spec_CoreOk N a0 = true) : F_spec_CoreOk N a0 = some (G_spec_CoreOk N a0) := by unfold P_spec_CoreOk at h; unfold G_spec_CoreOk; rw [lock_eq] at h ⊢; exact some_of_isSome h
theorem PG_spec_CoreOk {N : Nat} {a0 : DCore} {v : Bool} (h : F_spec_CoreOk N a0 = some v) : P_spec_CoreOk N a0 = true ∧ G_spec_CoreOk N a0 = v := by unfold P_spec_CoreOk G_spec_CoreOk; rw [h, lock_eq, lock_eq]; exact ⟨rfl, rfl⟩
def o_spec_CoreOk (N : Nat) : List V → Bool × V := mkO T_spec_CoreOk R_spec_CoreOk (fun (x : DCore) => P_spec_CoreOk N x) (fun (x : DCore) => G_spec_CoreOk N x)
theorem spec_CoreOk_entry (N : Nat) : Entry Try.prog 16 (o_spec_CoreOk N) := Entry.of fun (x : DCore) h =>
  Pf.of_run hm Try.func16 okFn_spec_CoreOk B_spec_CoreOk_ok B_spec_CoreOk_wf (O_spec_CoreOk_ok N) rfl ((F_spec_CoreOk_run N x).trans (FG_spec_CoreOk x h))
/-! loop.example/g00526/impl.within -/
abbrev T_impl_within : List GT := [(.i .i64), (.i .i64), (.i .i64)]
abbrev R_impl_within : List GT := [.b]
def fin_impl_within : Fr2 → Hp → Option Bool := finF R_impl_within [.t 6]
def O_impl_within (N : Nat) : Orac := orc [] []
theorem O_impl_within_ok (N : Nat) : OrcOk Try.prog (O_impl_within N) := OrcOk.of trivial trivial
def τ_impl_within : Nat → Option GT := fun _ => none
def B_impl_within : F2 := ⟨15, 3, [.t 6], τ_impl_within,
    .seq (.reg .reg [.op (some 6) (.mov (.c (.b false)))])
    (.seq (.reg .reg [.op (some 7) (.mov (.t 0)),
      .op (some 8) (.mov (.t 1)),
      .op (some 9) (.bin .geq (.t 7) (.t 8)),
      .op (some 10) (.mov (.t 9)),
      .br 10 true [.op (some 11) (.mov (.t 0)), .op (some 12) (.mov (.t 2)), .op (some 13) (.bin .leq (.t 11) (.t 12))] [11, 12, 13] 14 13,
      .op (some 6) (.mov (.t 14))])
    (.ret))⟩
theorem B_impl_within_ok : checkFn Try.prog Try.f49 B_impl_within.toA = true := by kernel_rfl
theorem B_impl_within_wf : B_impl_within.body.wf = true := by kernel_rfl
theorem okFn_impl_within : okFn Try.prog 49 = true := by kernel_rfl
def F_impl_within (N : Nat) (a0 : Int) (a1 : Int) (a2 : Int) : Option Bool :=
  some ((ile a1 a0) && (ile a0 a2))
theorem F_impl_within_run (N : Nat) (a0 : Int) (a1 : Int) (a2 : Int) :
    runF (O_impl_within N) N B_impl_within R_impl_within (vals T_impl_within (a0, a1, a2)) = F_impl_within N a0 a1 a2 := by kernel_rfl
def G_impl_within (a0 : Int) (a1 : Int) (a2 : Int) : Bool :=
  ((ile a1 a0) && (ile a0 a2))
theorem FG_impl_within (N : Nat) (a0 : Int) (a1 : Int) (a2 : Int) : F_impl_within N a0 a1 a2 = some (G_impl_within a0 a1 a2) := by
  first | rfl | (simp only [F_impl_within, G_impl_within, cond_some]; done) | (unfold F_impl_within G_impl_within; simp only [cond_some]; done)
def o_impl_within : List V → Bool × V := mkO T_impl_within R_impl_within (fun (x : (Int × Int × Int)) => true) (fun (x : (Int × Int × Int)) => G_impl_within x.1 x.2.1 x.2.2)
theorem impl_within_entry : Entry Try.prog 49 o_impl_within := Entry.of fun (x : (Int × Int × Int)) _ =>
  Pf.of_run hm Try.func49 okFn_impl_within B_impl_within_ok B_impl_within_wf (O_impl_within_ok 0) rfl ((F_impl_within_run 0 x.1 x.2.1 x.2.2).trans (FG_impl_within 0 x.1 x.2.1 x.2.2))
/-! loop.example/g00526/impl.wrap -/
abbrev T_impl_wrap : List GT := [(.i .i64)]
abbrev R_impl_wrap : List GT := [(.i .i64)]
def fin_impl_wrap : Fr2 → Hp → Option Int := finF R_impl_wrap [.t 2]
def O_impl_wrap (N : Nat) : Orac := orc [] []
theorem O_impl_wrap_ok (N : Nat) : OrcOk Try.prog (O_impl_wrap N) := OrcOk.of trivial trivial
def τ_impl_wrap : Nat → Option GT := fun _ => none
def B_impl_wrap : F2 := ⟨6, 1, [.t 2], τ_impl_wrap,
    .seq (.reg .reg [.op (some 2) (.mov (.c (.n .i64 0)))])
    (.seq (.reg .reg [.op (some 3) (.mov (.t 0)),
      .op (some 4) (.conv .i32 (.t 3)),
      .op (some 5) (.conv .i64 (.t 4)),
      .op (some 2) (.mov (.t 5))])
    (.ret))⟩
theorem B_impl_wrap_ok : checkFn Try.prog Try.f123 B_impl_wrap.toA = true := by kernel_rfl
theorem B_impl_wrap_wf : B_impl_wrap.body.wf = true := by kernel_rfl
theorem okFn_impl_wrap : okFn Try.prog 123 = true := by kernel_rfl
def F_impl_wrap (N : Nat) (a0 : Int) : Option Int :=
  some (w64 (IntKind.wrap .i32 a0))
theorem F_impl_wrap_run (N : Nat) (a0 : Int) :
    runF (O_impl_wrap N) N B_impl_wrap R_impl_wrap (vals T_impl_wrap a0) = F_impl_wrap N a0 := by kernel_rfl
def G_impl_wrap (a0 : Int) : Int :=
  (w64 (IntKind.wrap .i32 a0))
theorem FG_impl_wrap (N : Nat) (a0 : Int) : F_impl_wrap N a0 = some (G_impl_wrap a0) := by
  first | rfl | (simp only [F_impl_wrap, G_impl_wrap, cond_some]; done) | (unfold F_impl_wrap G_impl_wrap; simp only [cond_some]; done)
def o_impl_wrap : List V → Bool × V := mkO T_impl_wrap R_impl_wrap (fun (x : Int) => true) (fun (x : Int) => G_impl_wrap x)
theorem impl_wrap_entry : Entry Try.prog 123 o_impl_wrap := Entry.of fun (x : Int) _ =>
  Pf.of_run hm Try.func123 okFn_impl_wrap B_impl_wrap_ok B_impl_wrap_wf (O_impl_wrap_ok 0) rfl ((F_impl_wrap_run 0 x).trans (FG_impl_wrap 0 x))
/-! loop.example/g00526/impl.isWord -/
abbrev T_impl_isWord : List GT := [(.i .i64)]
abbrev R_impl_isWord : List GT := [.b]
def fin_impl_isWord : Fr2 → Hp → Option Bool := finF R_impl_isWord [.t 2]
def O_impl_isWord (N : Nat) : Orac := orc [(123, o_impl_wrap)] []
theorem O_impl_isWord_ok (N : Nat) : OrcOk Try.prog (O_impl_isWord N) := OrcOk.of ⟨impl_wrap_entry, trivial⟩ trivial
def τ_impl_isWord : Nat → Option GT := fun _ => none
def B_impl_isWord : F2 := ⟨7, 1, [.t 2], τ_impl_isWord,
    .seq (.reg .reg [.op (some 2) (.mov (.c (.b false)))])
    (.seq (.reg .reg [.op (some 3) (.mov (.t 0)),
      .op (some 4) (.mov (.t 0)),
      .op (some 5) (.call (.c (.f 123 [])) [.t 4]),
      .op (some 6) (.bin .eql (.t 3) (.t 5)),
      .op (some 2) (.mov (.t 6))])
    (.ret))⟩
theorem B_impl_isWord_ok : checkFn Try.prog Try.f97 B_impl_isWord.toA = true := by kernel_rfl
theorem B_impl_isWord_wf : B_impl_isWord.body.wf = true := by kernel_rfl
theorem okFn_impl_isWord : okFn Try.prog 97 = true := by kernel_rfl
def F_impl_isWord (N : Nat) (a0 : Int) : Option Bool :=
  some (ieq a0 (G_impl_wrap a0))
theorem F_impl_isWord_run (N : Nat) (a0 : Int) :
    runF (O_impl_isWord N) N B_impl_isWord R_impl_isWord (vals T_impl_isWord a0) = F_impl_isWord N a0 := by kernel_rfl
def G_impl_isWord (a0 : Int) : Bool :=
  (ieq a0 (G_impl_wrap a0))
theorem FG_impl_isWord (N : Nat) (a0 : Int) : F_impl_isWord N a0 = some (G_impl_isWord a0) := by
  first | rfl | (simp only [F_impl_isWord, G_impl_isWord, cond_some]; done) | (unfold F_impl_isWord G_impl_isWord; simp only [cond_some]; done)
def o_impl_isWord : List V → Bool × V := mkO T_impl_isWord R_impl_isWord (fun (x : Int) => true) (fun (x : Int) => G_impl_isWord x)
theorem impl_isWord_entry : Entry Try.prog 97 o_impl_isWord := Entry.of fun (x : Int) _ =>
  Pf.of_run hm Try.func97 okFn_impl_isWord B_impl_isWord_ok B_impl_isWord_wf (O_impl_isWord_ok 0) rfl ((F_impl_isWord_run 0 x).trans (FG_impl_isWord 0 x))
/-! loop.example/g00526/impl.isCore$1 -/
abbrev T_impl_isCore_c1 : List GT := [(.i .i64)]
abbrev R_impl_isCore_c1 : List GT := [.b]
def fin_impl_isCore_c1 : Fr2 → Hp → Option Bool := finF R_impl_isCore_c1 [.t 2]
def O_impl_isCore_c1 (N : Nat) : Orac := orc [(97, o_impl_isWord)] []
theorem O_impl_isCore_c1_ok (N : Nat) : OrcOk Try.prog (O_impl_isCore_c1 N) := OrcOk.of ⟨impl_isWord_entry, trivial⟩ trivial
def τ_impl_isCore_c1 : Nat → Option GT := fun _ => none
def B_impl_isCore_c1 : F2 := ⟨6, 1, [.t 2], τ_impl_isCore_c1,
    .seq (.reg .reg [.op (some 2) (.mov (.c (.b false)))])
    (.seq (.reg .reg [.op (some 3) (.mov (.t 0)),
      .op (some 4) (.call (.c (.f 97 [])) [.t 3]),
      .op (some 5) (.un .not (.t 4)),
      .op (some 2) (.mov (.t 5))])
    (.ret))⟩
theorem B_impl_isCore_c1_ok : checkFn Try.prog Try.f96 B_impl_isCore_c1.toA = true := by kernel_rfl
theorem B_impl_isCore_c1_wf : B_impl_isCore_c1.body.wf = true := by kernel_rfl
theorem okFn_impl_isCore_c1 : okFn Try.prog 96 = true := by kernel_rfl
def F_impl_isCore_c1 (N : Nat) (a0 : Int) : Option Bool :=
  some (!(G_impl_isWord a0))
theorem F_impl_isCore_c1_run (N : Nat) (a0 : Int) :
    runF (O_impl_isCore_c1 N) N B_impl_isCore_c1 R_impl_isCore_c1 (vals T_impl_isCore_c1 a0) = F_impl_isCore_c1 N a0 := by kernel_rfl
def G_impl_isCore_c1 (a0 : Int) : Bool :=
  (!(G_impl_isWord a0))
theorem FG_impl_isCore_c1 (N : Nat) (a0 : Int) : F_impl_isCore_c1 N a0 = some (G_impl_isCore_c1 a0) := by
  first | rfl | (simp only [F_impl_isCore_c1, G_impl_isCore_c1, cond_some]; done) | (unfold F_impl_isCore_c1 G_impl_isCore_c1; simp only [cond_some]; done)
def o_impl_isCore_c1 : List V → Bool × V := mkO T_impl_isCore_c1 R_impl_isCore_c1 (fun (x : Int) => true) (fun (x : Int) => G_impl_isCore_c1 x)
theorem impl_isCore_c1_entry : Entry Try.prog 96 o_impl_isCore_c1 := Entry.of fun (x : Int) _ =>
  Pf.of_run hm Try.func96 okFn_impl_isCore_c1 B_impl_isCore_c1_ok B_impl_isCore_c1_wf (O_impl_isCore_c1_ok 0) rfl ((F_impl_isCore_c1_run 0 x).trans (FG_impl_isCore_c1 0 x))
/-! slices.IndexFunc[[]int64,int64] -/
abbrev T_slices_IndexFunc_int64_impl_isCore_c1 : List GT := [(.sl (.i .i64)), (.fn 96 [])]
abbrev R_slices_IndexFunc_int64_impl_isCore_c1 : List GT := [(.i .i64)]
def fin_slices_IndexFunc_int64_impl_isCore_c1 : Fr2 → Hp → Option Int := finF R_slices_IndexFunc_int64_impl_isCore_c1 [.t 4]
def O_slices_IndexFunc_int64_impl_isCore_c1 (N : Nat) : Orac := orc [(96, o_impl_isCore_c1)] []
theorem O_slices_IndexFunc_int64_impl_isCore_c1_ok (N : Nat) : OrcOk Try.prog (O_slices_IndexFunc_int64_impl_isCore_c1 N) := OrcOk.of ⟨impl_isCore_c1_entry, trivial⟩ trivial
def c_slices_IndexFunc_int64_impl_isCore_c1_1 : C2 :=
    .seq (.reg .reg [.op (some 9) (.bin .lss (.t 8) (.t 7))])
    (.seq (.cond (.t 9) (.skip)
    (.exit 0))
    (.seq (.block 1 (.seq (.reg .reg [.op (some 10) (.mov (.t 8)),
      .op (some 5) (.mov (.t 10))])
    (.seq (.reg .reg [.op (some 11) (.mov (.t 1)),
      .op (some 12) (.mov (.t 0)),
      .op (some 13) (.mov (.t 5)),
      .op (some 14) (.iad 1 (.t 12) (.t 13)),
      .op (some 15) (.load 1 false (.t 14)),
      .op (some 16) (.call (.t 11) [.t 15])])
    (.cond (.t 16) (.seq (.reg .reg [.op (some 17) (.mov (.t 5)),
      .op (some 4) (.mov (.t 17))])
    (.ret))
    (.skip)))))
    (.reg .reg [.op (some 18) (.bin .add (.t 8) (.c (.n .i64 1))),
      .op (some 8) (.mov (.t 18))])))
def c_slices_IndexFunc_int64_impl_isCore_c1_2 : C2 :=
    .seq (.reg .reg [.op (some 4) (.mov (.c (.n .i64 (-1))))])
    (.ret)
def τ_slices_IndexFunc_int64_impl_isCore_c1 : Nat → Option GT := fun _ => none
def B_slices_IndexFunc_int64_impl_isCore_c1 : F2 := ⟨19, 2, [.t 4], τ_slices_IndexFunc_int64_impl_isCore_c1,
    .seq (.reg .reg [.op (some 4) (.mov (.c (.n .i64 0)))])
    (.seq (.seq (.reg .reg [.op (some 6) (.mov (.t 0)),
      .op (some 7) (.len false (.t 6)),
      .op (some 8) (.mov (.c (.n .i64 0)))])
    (.block 0 (.loop [0, 1, 7, 8] [] [] c_slices_IndexFunc_int64_impl_isCore_c1_1)))
    (c_slices_IndexFunc_int64_impl_isCore_c1_2))⟩
theorem B_slices_IndexFunc_int64_impl_isCore_c1_ok : checkFn Try.prog Try.f122 B_slices_IndexFunc_int64_impl_isCore_c1.toA = true := by kernel_rfl
theorem B_slices_IndexFunc_int64_impl_isCore_c1_wf : B_slices_IndexFunc_int64_impl_isCore_c1.body.wf = true := by kernel_rfl
theorem okFn_slices_IndexFunc_int64_impl_isCore_c1 : okFn Try.prog 122 = true := by kernel_rfl
def slices_IndexFunc_int64_impl_isCore_c1_l1s (r0 : Int → Option Int) (k0_0 : Option Int) (N : Nat) (a0 : List Int) (pv7_1 : Int) (v8_1 : Int) : Option Int :=
  bif (ilt v8_1 pv7_1) then
    let x1 : Int := (a0.getD (v8_1.toNat) (0 : Int))
    chk (inb v8_1 (a0.length)) <|
    bif (G_impl_isCore_c1 x1) then
      some v8_1
    else
      r0 (w64 (v8_1 + (1 : Int)))
  else
    k0_0
theorem slices_IndexFunc_int64_impl_isCore_c1_l1s_run (N : Nat) (C0 : Fr2 → Hp → Option Int) (K0 : Option Nat → Fr2 → Hp → Option Int) (a0 : List Int) (pv7_1 : Int) (v8_1 : Int) :
    rcode (O_slices_IndexFunc_int64_impl_isCore_c1 N) τ_slices_IndexFunc_int64_impl_isCore_c1 N fin_slices_IndexFunc_int64_impl_isCore_c1 c_slices_IndexFunc_int64_impl_isCore_c1_1 [(0, .q (.i .i64) a0), (1, .f 96 []), (7, .n .i64 pv7_1), (8, .n .i64 v8_1)] ⟨1, []⟩ (roundK [0, 1, 7, 8] [] [] C0 K0) = slices_IndexFunc_int64_impl_isCore_c1_l1s (fun v8_1 => C0 [(0, .q (.i .i64) a0), (1, .f 96 []), (7, .n .i64 pv7_1), (8, .n .i64 v8_1)] ⟨1, []⟩) (K0 (some 0) [] ⟨1, []⟩) N a0 pv7_1 v8_1 := by kernel_rfl
def slices_IndexFunc_int64_impl_isCore_c1_x1_0 (N : Nat) : Option Int :=
  some (-1 : Int)
theorem slices_IndexFunc_int64_impl_isCore_c1_x1_0_run (N : Nat)  :
    (blockK 0 (seqK' (fun fr H K => rcode (O_slices_IndexFunc_int64_impl_isCore_c1 N) τ_slices_IndexFunc_int64_impl_isCore_c1 N fin_slices_IndexFunc_int64_impl_isCore_c1 c_slices_IndexFunc_int64_impl_isCore_c1_2 fr H K) (finK R_slices_IndexFunc_int64_impl_isCore_c1 [.t 4]))) (some 0) [] ⟨1, []⟩ = slices_IndexFunc_int64_impl_isCore_c1_x1_0 N := by kernel_rfl
def slices_IndexFunc_int64_impl_isCore_c1_l1 (k0_0 : Option Int) (N : Nat) (a0 : List Int) (pv7_1 : Int) : Nat → Int → Option Int
  | 0, _ => none
  | n + 1, v8_1 => slices_IndexFunc_int64_impl_isCore_c1_l1s (slices_IndexFunc_int64_impl_isCore_c1_l1 k0_0 N a0 pv7_1 n) k0_0 N a0 pv7_1 v8_1
def slices_IndexFunc_int64_impl_isCore_c1_h1 (N : Nat) (a0 : List Int) (pv7_1 : Int) (v8_1 : Int) : Option Int :=
  slices_IndexFunc_int64_impl_isCore_c1_l1 (slices_IndexFunc_int64_impl_isCore_c1_x1_0 N) N a0 pv7_1 N v8_1
theorem slices_IndexFunc_int64_impl_isCore_c1_l1_run (N : Nat)  (K : Option Nat → Fr2 → Hp → Option Int) (a0 : List Int) (pv7_1 : Int) : ∀ (n : Nat) (v8_1 : Int),
    rloop (fun fr H K => rcode (O_slices_IndexFunc_int64_impl_isCore_c1 N) τ_slices_IndexFunc_int64_impl_isCore_c1 N fin_slices_IndexFunc_int64_impl_isCore_c1 c_slices_IndexFunc_int64_impl_isCore_c1_1 fr H K) [0, 1, 7, 8] [] [] K n [(0, .q (.i .i64) a0), (1, .f 96 []), (7, .n .i64 pv7_1), (8, .n .i64 v8_1)] ⟨1, []⟩ = slices_IndexFunc_int64_impl_isCore_c1_l1 (K (some 0) [] ⟨1, []⟩) N a0 pv7_1 n v8_1 := by
  intro n
  induction n with
  | zero => intro v8_1; kernel_rfl
  | succ n ih => intro v8_1; exact (slices_IndexFunc_int64_impl_isCore_c1_l1s_run N (rloop (fun fr H K => rcode (O_slices_IndexFunc_int64_impl_isCore_c1 N) τ_slices_IndexFunc_int64_impl_isCore_c1 N fin_slices_IndexFunc_int64_impl_isCore_c1 c_slices_IndexFunc_int64_impl_isCore_c1_1 fr H K) [0, 1, 7, 8] [] [] K n) K a0 pv7_1 v8_1).trans (congrArg (fun r => slices_IndexFunc_int64_impl_isCore_c1_l1s r (K (some 0) [] ⟨1, []⟩) N a0 pv7_1 v8_1) (funext fun v8_1 => ih v8_1))
theorem slices_IndexFunc_int64_impl_isCore_c1_h1_run (N : Nat) (a0 : List Int) (pv7_1 : Int) (v8_1 : Int) : rloop (fun fr H K => rcode (O_slices_IndexFunc_int64_impl_isCore_c1 N) τ_slices_IndexFunc_int64_impl_isCore_c1 N fin_slices_IndexFunc_int64_impl_isCore_c1 c_slices_IndexFunc_int64_impl_isCore_c1_1 fr H K) [0, 1, 7, 8] [] [] (blockK 0 (seqK' (fun fr H K => rcode (O_slices_IndexFunc_int64_impl_isCore_c1 N) τ_slices_IndexFunc_int64_impl_isCore_c1 N fin_slices_IndexFunc_int64_impl_isCore_c1 c_slices_IndexFunc_int64_impl_isCore_c1_2 fr H K) (finK R_slices_IndexFunc_int64_impl_isCore_c1 [.t 4]))) N [(0, .q (.i .i64) a0), (1, .f 96 []), (7, .n .i64 pv7_1), (8, .n .i64 v8_1)] ⟨1, []⟩ = slices_IndexFunc_int64_impl_isCore_c1_h1 N a0 pv7_1 v8_1 :=
  ((slices_IndexFunc_int64_impl_isCore_c1_l1_run N (blockK 0 (seqK' (fun fr H K => rcode (O_slices_IndexFunc_int64_impl_isCore_c1 N) τ_slices_IndexFunc_int64_impl_isCore_c1 N fin_slices_IndexFunc_int64_impl_isCore_c1 c_slices_IndexFunc_int64_impl_isCore_c1_2 fr H K) (finK R_slices_IndexFunc_int64_impl_isCore_c1 [.t 4]))) a0 pv7_1 N v8_1)).trans (congrArg (fun h => slices_IndexFunc_int64_impl_isCore_c1_l1 h N a0 pv7_1 N v8_1) (slices_IndexFunc_int64_impl_isCore_c1_x1_0_run N ))
def F_slices_IndexFunc_int64_impl_isCore_c1R (N : Nat) (slices_IndexFunc_int64_impl_isCore_c1_h1 : List Int → Int → Int → Option Int) (a0 : List Int) (a1 : Unit) : Option Int :=
  slices_IndexFunc_int64_impl_isCore_c1_h1 a0 ((a0.length) : Int) (0 : Int)
def F_slices_IndexFunc_int64_impl_isCore_c1 (N : Nat) (a0 : List Int) (a1 : Unit) : Option Int := F_slices_IndexFunc_int64_impl_isCore_c1R N (slices_IndexFunc_int64_impl_isCore_c1_h1 N) a0 a1
theorem F_slices_IndexFunc_int64_impl_isCore_c1_raw (N : Nat) (a0 : List Int) (a1 : Unit) :
    runF (O_slices_IndexFunc_int64_impl_isCore_c1 N) N B_slices_IndexFunc_int64_impl_isCore_c1 R_slices_IndexFunc_int64_impl_isCore_c1 (vals T_slices_IndexFunc_int64_impl_isCore_c1 (a0, a1)) = F_slices_IndexFunc_int64_impl_isCore_c1R N (fun a0 pv7_1 v8_1 => rloop (fun fr H K => rcode (O_slices_IndexFunc_int64_impl_isCore_c1 N) τ_slices_IndexFunc_int64_impl_isCore_c1 N fin_slices_IndexFunc_int64_impl_isCore_c1 c_slices_IndexFunc_int64_impl_isCore_c1_1 fr H K) [0, 1, 7, 8] [] [] (blockK 0 (seqK' (fun fr H K => rcode (O_slices_IndexFunc_int64_impl_isCore_c1 N) τ_slices_IndexFunc_int64_impl_isCore_c1 N fin_slices_IndexFunc_int64_impl_isCore_c1 c_slices_IndexFunc_int64_impl_isCore_c1_2 fr H K) (finK R_slices_IndexFunc_int64_impl_isCore_c1 [.t 4]))) N [(0, .q (.i .i64) a0), (1, .f 96 []), (7, .n .i64 pv7_1), (8, .n .i64 v8_1)] ⟨1, []⟩) a0 a1 := by kernel_rfl
theorem F_slices_IndexFunc_int64_impl_isCore_c1_run (N : Nat) (a0 : List Int) (a1 : Unit) :
    runF (O_slices_IndexFunc_int64_impl_isCore_c1 N) N B_slices_IndexFunc_int64_impl_isCore_c1 R_slices_IndexFunc_int64_impl_isCore_c1 (vals T_slices_IndexFunc_int64_impl_isCore_c1 (a0, a1)) = F_slices_IndexFunc_int64_impl_isCore_c1 N a0 a1 :=
  (F_slices_IndexFunc_int64_impl_isCore_c1_raw N a0 a1).trans (congrArg (fun h => F_slices_IndexFunc_int64_impl_isCore_c1R N h a0 a1) (funext fun a0 => funext fun pv7_1 => funext fun v8_1 => slices_IndexFunc_int64_impl_isCore_c1_h1_run N a0 pv7_1 v8_1))
def P_slices_IndexFunc_int64_impl_isCore_c1 (N : Nat) (a0 : List Int) (a1 : Unit) : Bool := lock (F_slices_IndexFunc_int64_impl_isCore_c1 N a0 a1).isSome
def G_slices_IndexFunc_int64_impl_isCore_c1 (N : Nat) (a0 : List Int) (a1 : Unit) : Int := lock ((F_slices_IndexFunc_int64_impl_isCore_c1 N a0 a1).getD (0 : Int))
theorem FG_slices_IndexFunc_int64_impl_isCore_c1 {N : Nat} (a0 : List Int) (a1 : Unit) (h : P_slices_IndexFunc_int64_impl_isCore_c1 N a0 a1 = true) : F_slices_IndexFunc_int64_impl_isCore_c1 N a0 a1 = some (G_slices_IndexFunc_int64_impl_isCore_c1 N a0 a1) := by unfold P_slices_IndexFunc_int64_impl_isCore_c1 at h; unfold G_slices_IndexFunc_int64_impl_isCore_c1; rw [lock_eq] at h ⊢; exact some_of_isSome h
theorem PG_slices_IndexFunc_int64_impl_isCore_c1 {N : Nat} {a0 : List Int} {a1 : Unit} {v : Int} (h : F_slices_IndexFunc_int64_impl_isCore_c1 N a0 a1 = some v) : P_slices_IndexFunc_int64_impl_isCore_c1 N a0 a1 = true ∧ G_slices_IndexFunc_int64_impl_isCore_c1 N a0 a1 = v := by unfold P_slices_IndexFunc_int64_impl_isCore_c1 G_slices_IndexFunc_int64_impl_isCore_c1; rw [h, lock_eq, lock_eq]; exact ⟨rfl, rfl⟩
def o_slices_IndexFunc_int64_impl_isCore_c1 (N : Nat) : List V → Bool × V := mkO T_slices_IndexFunc_int64_impl_isCore_c1 R_slices_IndexFunc_int64_impl_isCore_c1 (fun (x : (List Int × Unit)) => P_slices_IndexFunc_int64_impl_isCore_c1 N x.1 x.2) (fun (x : (List Int × Unit)) => G_slices_IndexFunc_int64_impl_isCore_c1 N x.1 x.2)
theorem slices_IndexFunc_int64_impl_isCore_c1_entry (N : Nat) : Entry Try.prog 122 (o_slices_IndexFunc_int64_impl_isCore_c1 N) := Entry.of fun (x : (List Int × Unit)) h =>
  Pf.of_run hm Try.func122 okFn_slices_IndexFunc_int64_impl_isCore_c1 B_slices_IndexFunc_int64_impl_isCore_c1_ok B_slices_IndexFunc_int64_impl_isCore_c1_wf (O_slices_IndexFunc_int64_impl_isCore_c1_ok N) rfl ((F_slices_IndexFunc_int64_impl_isCore_c1_run N x.1 x.2).trans (FG_slices_IndexFunc_int64_impl_isCore_c1 x.1 x.2 h))
/-! slices.ContainsFunc[[]int64,int64] -/
abbrev T_slices_ContainsFunc_int64_impl_isCore_c1 : List GT := [(.sl (.i .i64)), (.fn 96 [])]
abbrev R_slices_ContainsFunc_int64_impl_isCore_c1 : List GT := [.b]
def fin_slices_ContainsFunc_int64_impl_isCore_c1 : Fr2 → Hp → Option Bool := finF R_slices_ContainsFunc_int64_impl_isCore_c1 [.t 4]
def O_slices_ContainsFunc_int64_impl_isCore_c1 (N : Nat) : Orac := orc [(122, o_slices_IndexFunc_int64_impl_isCore_c1 N)] []
theorem O_slices_ContainsFunc_int64_impl_isCore_c1_ok (N : Nat) : OrcOk Try.prog (O_slices_ContainsFunc_int64_impl_isCore_c1 N) := OrcOk.of ⟨slices_IndexFunc_int64_impl_isCore_c1_entry N, trivial⟩ trivial
def τ_slices_ContainsFunc_int64_impl_isCore_c1 : Nat → Option GT := fun _ => none
def B_slices_ContainsFunc_int64_impl_isCore_c1 : F2 := ⟨9, 2, [.t 4], τ_slices_ContainsFunc_int64_impl_isCore_c1,
    .seq (.reg .reg [.op (some 4) (.mov (.c (.b false)))])
    (.seq (.reg .reg [.op (some 5) (.mov (.t 0)),
      .op (some 6) (.mov (.t 1)),
      .op (some 7) (.call (.c (.f 122 [])) [.t 5, .t 6]),
      .op (some 8) (.bin .geq (.t 7) (.c (.n .i64 0))),
      .op (some 4) (.mov (.t 8))])
    (.ret))⟩
theorem B_slices_ContainsFunc_int64_impl_isCore_c1_ok : checkFn Try.prog Try.f95 B_slices_ContainsFunc_int64_impl_isCore_c1.toA = true := by kernel_rfl
theorem B_slices_ContainsFunc_int64_impl_isCore_c1_wf : B_slices_ContainsFunc_int64_impl_isCore_c1.body.wf = true := by kernel_rfl
theorem okFn_slices_ContainsFunc_int64_impl_isCore_c1 : okFn Try.prog 95 = true := by kernel_rfl
def F_slices_ContainsFunc_int64_impl_isCore_c1 (N : Nat) (a0 : List Int) (a1 : Unit) : Option Bool :=
  chk (P_slices_IndexFunc_int64_impl_isCore_c1 N a0 ()) <|
  some (ile (0 : Int) (G_slices_IndexFunc_int64_impl_isCore_c1 N a0 ()))
theorem F_slices_ContainsFunc_int64_impl_isCore_c1_run (N : Nat) (a0 : List Int) (a1 : Unit) :
    runF (O_slices_ContainsFunc_int64_impl_isCore_c1 N) N B_slices_ContainsFunc_int64_impl_isCore_c1 R_slices_ContainsFunc_int64_impl_isCore_c1 (vals T_slices_ContainsFunc_int64_impl_isCore_c1 (a0, a1)) = F_slices_ContainsFunc_int64_impl_isCore_c1 N a0 a1 := by kernel_rfl
def P_slices_ContainsFunc_int64_impl_isCore_c1 (N : Nat) (a0 : List Int) (a1 : Unit) : Bool := lock (F_slices_ContainsFunc_int64_impl_isCore_c1 N a0 a1).isSome
def G_slices_ContainsFunc_int64_impl_isCore_c1 (N : Nat) (a0 : List Int) (a1 : Unit) : Bool := lock ((F_slices_ContainsFunc_int64_impl_isCore_c1 N a0 a1).getD false)
theorem FG_slices_ContainsFunc_int64_impl_isCore_c1 {N : Nat} (a0 : List Int) (a1 : Unit) (h : P_slices_ContainsFunc_int64_impl_isCore_c1 N a0 a1 = true) : F_slices_ContainsFunc_int64_impl_isCore_c1 N a0 a1 = some (G_slices_ContainsFunc_int64_impl_isCore_c1 N a0 a1) := by unfold P_slices_ContainsFunc_int64_impl_isCore_c1 at h; unfold G_slices_ContainsFunc_int64_impl_isCore_c1; rw [lock_eq] at h ⊢; exact some_of_isSome h
theorem PG_slices_ContainsFunc_int64_impl_isCore_c1 {N : Nat} {a0 : List Int} {a1 : Unit} {v : Bool} (h : F_slices_ContainsFunc_int64_impl_isCore_c1 N a0 a1 = some v) : P_slices_ContainsFunc_int64_impl_isCore_c1 N a0 a1 = true ∧ G_slices_ContainsFunc_int64_impl_isCore_c1 N a0 a1 = v := by unfold P_slices_ContainsFunc_int64_impl_isCore_c1 G_slices_ContainsFunc_int64_impl_isCore_c1; rw [h, lock_eq, lock_eq]; exact ⟨rfl, rfl⟩
def o_slices_ContainsFunc_int64_impl_isCore_c1 (N : Nat) : List V → Bool × V := mkO T_slices_ContainsFunc_int64_impl_isCore_c1 R_slices_ContainsFunc_int64_impl_isCore_c1 (fun (x : (List Int × Unit)) => P_slices_ContainsFunc_int64_impl_isCore_c1 N x.1 x.2) (fun (x : (List Int × Unit)) => G_slices_ContainsFunc_int64_impl_isCore_c1 N x.1 x.2)
theorem slices_ContainsFunc_int64_impl_isCore_c1_entry (N : Nat) : Entry Try.prog 95 (o_slices_ContainsFunc_int64_impl_isCore_c1 N) := Entry.of fun (x : (List Int × Unit)) h =>
  Pf.of_run hm Try.func95 okFn_slices_ContainsFunc_int64_impl_isCore_c1 B_slices_ContainsFunc_int64_impl_isCore_c1_ok B_slices_ContainsFunc_int64_impl_isCore_c1_wf (O_slices_ContainsFunc_int64_impl_isCore_c1_ok N) rfl ((F_slices_ContainsFunc_int64_impl_isCore_c1_run N x.1 x.2).trans (FG_slices_ContainsFunc_int64_impl_isCore_c1 x.1 x.2 h))
/-! loop.example/g00526/impl.isName -/
abbrev T_impl_isName : List GT := [.s]
abbrev R_impl_isName : List GT := [.b]
def fin_impl_isName : Fr2 → Hp → Option Bool := finF R_impl_isName [.t 2]
def O_impl_isName (N : Nat) : Orac := orc [] []
theorem O_impl_isName_ok (N : Nat) : OrcOk Try.prog (O_impl_isName N) := OrcOk.of trivial trivial
def c_impl_isName_1 : C2 :=
    .seq (.reg .reg [.op (some 7) (.bin .lss (.t 6) (.t 5))])
    (.seq (.cond (.t 7) (.skip)
    (.exit 0))
    (.seq (.block 1 (.seq (.reg .reg [.op (some 8) (.mov (.t 6)),
      .op (some 3) (.mov (.t 8))])
    (.seq (.reg .reg [.op (some 9) (.mov (.t 0)),
      .op (some 10) (.mov (.t 3)),
      .op (some 11) (.idx (.t 9) (.t 10)),
      .op (some 12) (.bin .lss (.t 11) (.c (.n .u8 97))),
      .op (some 13) (.mov (.t 12)),
      .br 13 false [.op (some 14) (.mov (.t 0)), .op (some 15) (.mov (.t 3)), .op (some 16) (.idx (.t 14) (.t 15)), .op (some 17) (.bin .gtr (.t 16) (.c (.n .u8 122)))] [14, 15, 16, 17] 18 17])
    (.cond (.t 18) (.seq (.reg .reg [.op (some 2) (.mov (.c (.b false)))])
    (.ret))
    (.skip)))))
    (.reg .reg [.op (some 19) (.bin .add (.t 6) (.c (.n .i64 1))),
      .op (some 6) (.mov (.t 19))])))
def c_impl_isName_2 : C2 :=
    .seq (.reg .reg [.op (some 20) (.mov (.t 0)),
      .op (some 21) (.len true (.t 20)),
      .op (some 22) (.bin .geq (.t 21) (.c (.n .i64 1))),
      .op (some 23) (.mov (.t 22)),
      .br 23 true [.op (some 24) (.mov (.t 0)), .op (some 25) (.len true (.t 24)), .op (some 26) (.bin .leq (.t 25) (.c (.n .i64 8)))] [24, 25, 26] 27 26,
      .op (some 2) (.mov (.t 27))])
    (.ret)
def τ_impl_isName : Nat → Option GT := fun _ => none
def B_impl_isName : F2 := ⟨28, 1, [.t 2], τ_impl_isName,
    .seq (.reg .reg [.op (some 2) (.mov (.c (.b false)))])
    (.seq (.seq (.reg .reg [.op (some 4) (.mov (.t 0)),
      .op (some 5) (.len true (.t 4)),
      .op (some 6) (.mov (.c (.n .i64 0)))])
    (.block 0 (.loop [0, 5, 6] [] [0] c_impl_isName_1)))
    (c_impl_isName_2))⟩
theorem B_impl_isName_ok : checkFn Try.prog Try.f98 B_impl_isName.toA = true := by kernel_rfl
theorem B_impl_isName_wf : B_impl_isName.body.wf = true := by kernel_rfl
theorem okFn_impl_isName : okFn Try.prog 98 = true := by kernel_rfl
def impl_isName_l1s (r0 : Int → Option Bool) (k0_0 : Option Bool) (N : Nat) (a0 : ByteArray) (pv5_1 : Int) (v6_1 : Int) : Option Bool :=
  bif (ilt v6_1 pv5_1) then
    chk (inb v6_1 a0.size) <|
    chk ((inb v6_1 a0.size) || (ilt ((a0[(v6_1.toNat)]!).toNat : Int) (97 : Int))) <|
    bif ((ilt ((a0[(v6_1.toNat)]!).toNat : Int) (97 : Int)) || (ilt (122 : Int) ((a0[(v6_1.toNat)]!).toNat : Int))) then
      some false
    else
      r0 (w64 (v6_1 + (1 : Int)))
  else
    k0_0
theorem impl_isName_l1s_run (N : Nat) (C0 : Fr2 → Hp → Option Bool) (K0 : Option Nat → Fr2 → Hp → Option Bool) (a0 : ByteArray) (pv5_1 : Int) (v6_1 : Int) :
    rcode (O_impl_isName N) τ_impl_isName N fin_impl_isName c_impl_isName_1 [(0, .s a0), (5, .n .i64 pv5_1), (6, .n .i64 v6_1)] ⟨1, []⟩ (roundK [0, 5, 6] [] [0] C0 K0) = impl_isName_l1s (fun v6_1 => C0 [(0, .s a0), (5, .n .i64 pv5_1), (6, .n .i64 v6_1)] ⟨1, []⟩) (K0 (some 0) [(0, .s a0)] ⟨1, []⟩) N a0 pv5_1 v6_1 := by kernel_rfl
def impl_isName_x1_0 (N : Nat) (a0 : ByteArray) : Option Bool :=
  some ((ile (1 : Int) (a0.size : Int)) && (ile (a0.size : Int) (8 : Int)))
theorem impl_isName_x1_0_run (N : Nat) (a0 : ByteArray) :
    (blockK 0 (seqK' (fun fr H K => rcode (O_impl_isName N) τ_impl_isName N fin_impl_isName c_impl_isName_2 fr H K) (finK R_impl_isName [.t 2]))) (some 0) [(0, .s a0)] ⟨1, []⟩ = impl_isName_x1_0 N a0 := by kernel_rfl
def impl_isName_l1 (k0_0 : Option Bool) (N : Nat) (a0 : ByteArray) (pv5_1 : Int) : Nat → Int → Option Bool
  | 0, _ => none
  | n + 1, v6_1 => impl_isName_l1s (impl_isName_l1 k0_0 N a0 pv5_1 n) k0_0 N a0 pv5_1 v6_1
def impl_isName_h1 (N : Nat) (a0 : ByteArray) (pv5_1 : Int) (v6_1 : Int) : Option Bool :=
  impl_isName_l1 (impl_isName_x1_0 N a0) N a0 pv5_1 N v6_1
theorem impl_isName_l1_run (N : Nat)  (K : Option Nat → Fr2 → Hp → Option Bool) (a0 : ByteArray) (pv5_1 : Int) : ∀ (n : Nat) (v6_1 : Int),
    rloop (fun fr H K => rcode (O_impl_isName N) τ_impl_isName N fin_impl_isName c_impl_isName_1 fr H K) [0, 5, 6] [] [0] K n [(0, .s a0), (5, .n .i64 pv5_1), (6, .n .i64 v6_1)] ⟨1, []⟩ = impl_isName_l1 (K (some 0) [(0, .s a0)] ⟨1, []⟩) N a0 pv5_1 n v6_1 := by
  intro n
  induction n with
  | zero => intro v6_1; kernel_rfl
  | succ n ih => intro v6_1; exact (impl_isName_l1s_run N (rloop (fun fr H K => rcode (O_impl_isName N) τ_impl_isName N fin_impl_isName c_impl_isName_1 fr H K) [0, 5, 6] [] [0] K n) K a0 pv5_1 v6_1).trans (congrArg (fun r => impl_isName_l1s r (K (some 0) [(0, .s a0)] ⟨1, []⟩) N a0 pv5_1 v6_1) (funext fun v6_1 => ih v6_1))
theorem impl_isName_h1_run (N : Nat) (a0 : ByteArray) (pv5_1 : Int) (v6_1 : Int) : rloop (fun fr H K => rcode (O_impl_isName N) τ_impl_isName N fin_impl_isName c_impl_isName_1 fr H K) [0, 5, 6] [] [0] (blockK 0 (seqK' (fun fr H K => rcode (O_impl_isName N) τ_impl_isName N fin_impl_isName c_impl_isName_2 fr H K) (finK R_impl_isName [.t 2]))) N [(0, .s a0), (5, .n .i64 pv5_1), (6, .n .i64 v6_1)] ⟨1, []⟩ = impl_isName_h1 N a0 pv5_1 v6_1 :=
  ((impl_isName_l1_run N (blockK 0 (seqK' (fun fr H K => rcode (O_impl_isName N) τ_impl_isName N fin_impl_isName c_impl_isName_2 fr H K) (finK R_impl_isName [.t 2]))) a0 pv5_1 N v6_1)).trans (congrArg (fun h => impl_isName_l1 h N a0 pv5_1 N v6_1) (impl_isName_x1_0_run N a0))
def F_impl_isNameR (N : Nat) (impl_isName_h1 : ByteArray → Int → Int → Option Bool) (a0 : ByteArray) : Option Bool :=
  impl_isName_h1 a0 (a0.size : Int) (0 : Int)
def F_impl_isName (N : Nat) (a0 : ByteArray) : Option Bool := F_impl_isNameR N (impl_isName_h1 N) a0
theorem F_impl_isName_raw (N : Nat) (a0 : ByteArray) :
    runF (O_impl_isName N) N B_impl_isName R_impl_isName (vals T_impl_isName a0) = F_impl_isNameR N (fun a0 pv5_1 v6_1 => rloop (fun fr H K => rcode (O_impl_isName N) τ_impl_isName N fin_impl_isName c_impl_isName_1 fr H K) [0, 5, 6] [] [0] (blockK 0 (seqK' (fun fr H K => rcode (O_impl_isName N) τ_impl_isName N fin_impl_isName c_impl_isName_2 fr H K) (finK R_impl_isName [.t 2]))) N [(0, .s a0), (5, .n .i64 pv5_1), (6, .n .i64 v6_1)] ⟨1, []⟩) a0 := by kernel_rfl
theorem F_impl_isName_run (N : Nat) (a0 : ByteArray) :
    runF (O_impl_isName N) N B_impl_isName R_impl_isName (vals T_impl_isName a0) = F_impl_isName N a0 :=
  (F_impl_isName_raw N a0).trans (congrArg (fun h => F_impl_isNameR N h a0) (funext fun a0 => funext fun pv5_1 => funext fun v6_1 => impl_isName_h1_run N a0 pv5_1 v6_1))
def P_impl_isName (N : Nat) (a0 : ByteArray) : Bool := lock (F_impl_isName N a0).isSome
def G_impl_isName (N : Nat) (a0 : ByteArray) : Bool := lock ((F_impl_isName N a0).getD false)
theorem FG_impl_isName {N : Nat} (a0 : ByteArray) (h : P_impl_isName N a0 = true) : F_impl_isName N a0 = some (G_impl_isName N a0) := by unfold P_impl_isName at h; unfold G_impl_isName; rw [lock_eq] at h ⊢; exact some_of_isSome h
theorem PG_impl_isName {N : Nat} {a0 : ByteArray} {v : Bool} (h : F_impl_isName N a0 = some v) : P_impl_isName N a0 = true ∧ G_impl_isName N a0 = v := by unfold P_impl_isName G_impl_isName; rw [h, lock_eq, lock_eq]; exact ⟨rfl, rfl⟩
def o_impl_isName (N : Nat) : List V → Bool × V := mkO T_impl_isName R_impl_isName (fun (x : ByteArray) => P_impl_isName N x) (fun (x : ByteArray) => G_impl_isName N x)
theorem impl_isName_entry (N : Nat) : Entry Try.prog 98 (o_impl_isName N) := Entry.of fun (x : ByteArray) h =>
  Pf.of_run hm Try.func98 okFn_impl_isName B_impl_isName_ok B_impl_isName_wf (O_impl_isName_ok N) rfl ((F_impl_isName_run N x).trans (FG_impl_isName x h))
/-! loop.example/g00526/impl.areBins -/
abbrev T_impl_areBins : List GT := [(.sl tBin)]
abbrev R_impl_areBins : List GT := [.b]
def fin_impl_areBins : Fr2 → Hp → Option Bool := finF R_impl_areBins [.t 2]
def O_impl_areBins (N : Nat) : Orac := orc [(98, o_impl_isName N), (97, o_impl_isWord)] []
theorem O_impl_areBins_ok (N : Nat) : OrcOk Try.prog (O_impl_areBins N) := OrcOk.of ⟨impl_isName_entry N, impl_isWord_entry, trivial⟩ trivial
def c_impl_areBins_1 : C2 :=
    .seq (.reg .reg [.op (some 8) (.bin .lss (.t 7) (.t 6))])
    (.seq (.cond (.t 8) (.skip)
    (.exit 0))
    (.seq (.block 1 (.seq (.reg .reg [.op (some 9) (.mov (.t 7)),
      .op (some 10) (.iad 2 (.t 5) (.t 7)),
      .op (some 11) (.load 2 true (.t 10)),
      .op (some 4) (.aloc [.s ⟨#[]⟩, .n .i64 0]),
      .op (some 3) (.mov (.t 9)),
      .op none (.stor 2 (.t 4) (.t 11))])
    (.seq (.reg (.plan (.take 0 (.take 1 (.all [(2, .take 3 (.take 4 (.take 5 (.take 6 (.all [(7, .take 8 (.take 9 (.take 10 (.take 11 (.take 12 (.take 13 (.take 14 (.take 15 (.take 16 (.take 17 (.take 18 (.take 19 (.take 20 (.take 21 (.take 22 (.take 23 (.take 24 (.done))))))))))))))))))])))))]))) [0, 1, 5, 6, 11, 12, 13, 14, 15, 16, 17, 18, 19, 20, 21, 22]) [.op (some 12) (.fad 0 (.t 4)),
      .op (some 13) (.load 1 false (.t 12)),
      .op (some 14) (.call (.c (.f 98 [])) [.t 13]),
      .op (some 15) (.un .not (.t 14)),
      .op (some 16) (.mov (.t 15)),
      .br 16 false [.op (some 17) (.fad 1 (.t 4)), .op (some 18) (.load 1 false (.t 17)), .op (some 19) (.call (.c (.f 97 [])) [.t 18]), .op (some 20) (.un .not (.t 19))] [17, 18, 19, 20] 21 20,
      .op (some 22) (.mov (.t 21)),
      .br 22 false [.op (some 23) (.mov (.t 3)), .op (some 24) (.bin .gtr (.t 23) (.c (.n .i64 0))), .op (some 25) (.mov (.t 24)), .br 25 true [.op (some 26) (.mov (.t 0)), .op (some 27) (.mov (.t 3)), .op (some 28) (.bin .sub (.t 27) (.c (.n .i64 1))), .op (some 29) (.iad 2 (.t 26) (.t 28)), .op (some 30) (.fad 0 (.t 29)), .op (some 31) (.load 1 false (.t 30)), .op (some 32) (.fad 0 (.t 4)), .op (some 33) (.load 1 false (.t 32)), .op (some 34) (.bin .geq (.t 31) (.t 33))] [26, 27, 28, 29, 30, 31, 32, 33, 34] 35 34] [23, 24, 25, 26, 27, 28, 29, 30, 31, 32, 33, 34, 35] 36 35])
    (.cond (.t 36) (.seq (.reg .reg [.op (some 2) (.mov (.c (.b false)))])
    (.ret))
    (.skip)))))
    (.reg .reg [.op (some 37) (.bin .add (.t 7) (.c (.n .i64 1))),
      .op (some 7) (.mov (.t 37))])))
def c_impl_areBins_2 : C2 :=
    .seq (.reg .reg [.op (some 38) (.mov (.t 0)),
      .op (some 39) (.len false (.t 38)),
      .op (some 40) (.bin .leq (.t 39) (.c (.n .i64 12))),
      .op (some 2) (.mov (.t 40))])
    (.ret)
def τ_impl_areBins : Nat → Option GT := fun _ => none
def B_impl_areBins : F2 := ⟨41, 1, [.t 2], τ_impl_areBins,
    .seq (.reg .reg [.op (some 2) (.mov (.c (.b false)))])
    (.seq (.seq (.reg .reg [.op (some 5) (.mov (.t 0)),
      .op (some 6) (.len false (.t 5)),
      .op (some 7) (.mov (.c (.n .i64 0)))])
    (.block 0 (.loop [0, 5, 6, 7] [] [0] c_impl_areBins_1)))
    (c_impl_areBins_2))⟩
theorem B_impl_areBins_ok : checkFn Try.prog Try.f66 B_impl_areBins.toA = true := by kernel_rfl
theorem B_impl_areBins_wf : B_impl_areBins.body.wf = true := by kernel_rfl
theorem okFn_impl_areBins : okFn Try.prog 66 = true := by kernel_rfl
def impl_areBins_l1s (r0 : Int → Option Bool) (k0_0 : Option Bool) (N : Nat) (a0 : List DBin) (pv5_1 : List DBin) (pv6_1 : Int) (v7_1 : Int) : Option Bool :=
  bif (ilt v7_1 pv6_1) then
    let x1 : DBin := (pv5_1.getD (v7_1.toNat) dBin)
    chk (inb v7_1 (pv5_1.length)) <|
    let x2 : DBin := (a0.getD ((w64 (v7_1 - (1 : Int))).toNat) dBin)
    chk (P_impl_isName N x1.1) <|
    chk ((inb (w64 (v7_1 - (1 : Int))) (a0.length)) || !((!((!(G_impl_isName N x1.1)) || (!(G_impl_isWord x1.2)))) && (ilt (0 : Int) v7_1))) <|
    bif (((!(G_impl_isName N x1.1)) || (!(G_impl_isWord x1.2))) || ((ilt (0 : Int) v7_1) && (!(Op.bytesLess x2.1.toList x1.1.toList)))) then
      some false
    else
      r0 (w64 (v7_1 + (1 : Int)))
  else
    k0_0
theorem impl_areBins_l1s_run (N : Nat) (C0 : Fr2 → Hp → Option Bool) (K0 : Option Nat → Fr2 → Hp → Option Bool) (a0 : List DBin) (pv5_1 : List DBin) (pv6_1 : Int) (v7_1 : Int) :
    rcode (O_impl_areBins N) τ_impl_areBins N fin_impl_areBins c_impl_areBins_1 [(0, .q tBin a0), (5, .q tBin pv5_1), (6, .n .i64 pv6_1), (7, .n .i64 v7_1)] ⟨1, []⟩ (roundK [0, 5, 6, 7] [] [0] C0 K0) = impl_areBins_l1s (fun v7_1 => C0 [(0, .q tBin a0), (5, .q tBin pv5_1), (6, .n .i64 pv6_1), (7, .n .i64 v7_1)] ⟨1, []⟩) (K0 (some 0) [(0, .q tBin a0)] ⟨1, []⟩) N a0 pv5_1 pv6_1 v7_1 := by kernel_rfl
def impl_areBins_x1_0 (N : Nat) (a0 : List DBin) : Option Bool :=
  some (ile ((a0.length) : Int) (12 : Int))
theorem impl_areBins_x1_0_run (N : Nat) (a0 : List DBin) :
    (blockK 0 (seqK' (fun fr H K => rcode (O_impl_areBins N) τ_impl_areBins N fin_impl_areBins c_impl_areBins_2 fr H K) (finK R_impl_areBins [.t 2]))) (some 0) [(0, .q tBin a0)] ⟨1, []⟩ = impl_areBins_x1_0 N a0 := by kernel_rfl
def impl_areBins_l1 (k0_0 : Option Bool) (N : Nat) (a0 : List DBin) (pv5_1 : List DBin) (pv6_1 : Int) : Nat → Int → Option Bool
  | 0, _ => none
  | n + 1, v7_1 => impl_areBins_l1s (impl_areBins_l1 k0_0 N a0 pv5_1 pv6_1 n) k0_0 N a0 pv5_1 pv6_1 v7_1
def impl_areBins_h1 (N : Nat) (a0 : List DBin) (pv5_1 : List DBin) (pv6_1 : Int) (v7_1 : Int) : Option Bool :=
  impl_areBins_l1 (impl_areBins_x1_0 N a0) N a0 pv5_1 pv6_1 N v7_1
theorem impl_areBins_l1_run (N : Nat)  (K : Option Nat → Fr2 → Hp → Option Bool) (a0 : List DBin) (pv5_1 : List DBin) (pv6_1 : Int) : ∀ (n : Nat) (v7_1 : Int),
    rloop (fun fr H K => rcode (O_impl_areBins N) τ_impl_areBins N fin_impl_areBins c_impl_areBins_1 fr H K) [0, 5, 6, 7] [] [0] K n [(0, .q tBin a0), (5, .q tBin pv5_1), (6, .n .i64 pv6_1), (7, .n .i64 v7_1)] ⟨1, []⟩ = impl_areBins_l1 (K (some 0) [(0, .q tBin a0)] ⟨1, []⟩) N a0 pv5_1 pv6_1 n v7_1 := by
  intro n
  induction n with
  | zero => intro v7_1; kernel_rfl
  | succ n ih => intro v7_1; exact (impl_areBins_l1s_run N (rloop (fun fr H K => rcode (O_impl_areBins N) τ_impl_areBins N fin_impl_areBins c_impl_areBins_1 fr H K) [0, 5, 6, 7] [] [0] K n) K a0 pv5_1 pv6_1 v7_1).trans (congrArg (fun r => impl_areBins_l1s r (K (some 0) [(0, .q tBin a0)] ⟨1, []⟩) N a0 pv5_1 pv6_1 v7_1) (funext fun v7_1 => ih v7_1))
theorem impl_areBins_h1_run (N : Nat) (a0 : List DBin) (pv5_1 : List DBin) (pv6_1 : Int) (v7_1 : Int) : rloop (fun fr H K => rcode (O_impl_areBins N) τ_impl_areBins N fin_impl_areBins c_impl_areBins_1 fr H K) [0, 5, 6, 7] [] [0] (blockK 0 (seqK' (fun fr H K => rcode (O_impl_areBins N) τ_impl_areBins N fin_impl_areBins c_impl_areBins_2 fr H K) (finK R_impl_areBins [.t 2]))) N [(0, .q tBin a0), (5, .q tBin pv5_1), (6, .n .i64 pv6_1), (7, .n .i64 v7_1)] ⟨1, []⟩ = impl_areBins_h1 N a0 pv5_1 pv6_1 v7_1 :=
  ((impl_areBins_l1_run N (blockK 0 (seqK' (fun fr H K => rcode (O_impl_areBins N) τ_impl_areBins N fin_impl_areBins c_impl_areBins_2 fr H K) (finK R_impl_areBins [.t 2]))) a0 pv5_1 pv6_1 N v7_1)).trans (congrArg (fun h => impl_areBins_l1 h N a0 pv5_1 pv6_1 N v7_1) (impl_areBins_x1_0_run N a0))
def F_impl_areBinsR (N : Nat) (impl_areBins_h1 : List DBin → List DBin → Int → Int → Option Bool) (a0 : List DBin) : Option Bool :=
  impl_areBins_h1 a0 a0 ((a0.length) : Int) (0 : Int)
def F_impl_areBins (N : Nat) (a0 : List DBin) : Option Bool := F_impl_areBinsR N (impl_areBins_h1 N) a0
theorem F_impl_areBins_raw (N : Nat) (a0 : List DBin) :
    runF (O_impl_areBins N) N B_impl_areBins R_impl_areBins (vals T_impl_areBins a0) = F_impl_areBinsR N (fun a0 pv5_1 pv6_1 v7_1 => rloop (fun fr H K => rcode (O_impl_areBins N) τ_impl_areBins N fin_impl_areBins c_impl_areBins_1 fr H K) [0, 5, 6, 7] [] [0] (blockK 0 (seqK' (fun fr H K => rcode (O_impl_areBins N) τ_impl_areBins N fin_impl_areBins c_impl_areBins_2 fr H K) (finK R_impl_areBins [.t 2]))) N [(0, .q tBin a0), (5, .q tBin pv5_1), (6, .n .i64 pv6_1), (7, .n .i64 v7_1)] ⟨1, []⟩) a0 := by kernel_rfl
theorem F_impl_areBins_run (N : Nat) (a0 : List DBin) :
    runF (O_impl_areBins N) N B_impl_areBins R_impl_areBins (vals T_impl_areBins a0) = F_impl_areBins N a0 :=
  (F_impl_areBins_raw N a0).trans (congrArg (fun h => F_impl_areBinsR N h a0) (funext fun a0 => funext fun pv5_1 => funext fun pv6_1 => funext fun v7_1 => impl_areBins_h1_run N a0 pv5_1 pv6_1 v7_1))
def P_impl_areBins (N : Nat) (a0 : List DBin) : Bool := lock (F_impl_areBins N a0).isSome
def G_impl_areBins (N : Nat) (a0 : List DBin) : Bool := lock ((F_impl_areBins N a0).getD false)
theorem FG_impl_areBins {N : Nat} (a0 : List DBin) (h : P_impl_areBins N a0 = true) : F_impl_areBins N a0 = some (G_impl_areBins N a0) := by unfold P_impl_areBins at h; unfold G_impl_areBins; rw [lock_eq] at h ⊢; exact some_of_isSome h
theorem PG_impl_areBins {N : Nat} {a0 : List DBin} {v : Bool} (h : F_impl_areBins N a0 = some v) : P_impl_areBins N a0 = true ∧ G_impl_areBins N a0 = v := by unfold P_impl_areBins G_impl_areBins; rw [h, lock_eq, lock_eq]; exact ⟨rfl, rfl⟩
def o_impl_areBins (N : Nat) : List V → Bool × V := mkO T_impl_areBins R_impl_areBins (fun (x : List DBin) => P_impl_areBins N x) (fun (x : List DBin) => G_impl_areBins N x)
theorem impl_areBins_entry (N : Nat) : Entry Try.prog 66 (o_impl_areBins N) := Entry.of fun (x : List DBin) h =>
  Pf.of_run hm Try.func66 okFn_impl_areBins B_impl_areBins_ok B_impl_areBins_wf (O_impl_areBins_ok N) rfl ((F_impl_areBins_run N x).trans (FG_impl_areBins x h))
/-! loop.example/g00526/impl.isFuel -/
abbrev T_impl_isFuel : List GT := [(.i .i64)]
abbrev R_impl_isFuel : List GT := [.b]
def fin_impl_isFuel : Fr2 → Hp → Option Bool := finF R_impl_isFuel [.t 2]
def O_impl_isFuel (N : Nat) : Orac := orc [(49, o_impl_within)] []
theorem O_impl_isFuel_ok (N : Nat) : OrcOk Try.prog (O_impl_isFuel N) := OrcOk.of ⟨impl_within_entry, trivial⟩ trivial
def τ_impl_isFuel : Nat → Option GT := fun _ => none
def B_impl_isFuel : F2 := ⟨5, 1, [.t 2], τ_impl_isFuel,
    .seq (.reg .reg [.op (some 2) (.mov (.c (.b false)))])
    (.seq (.reg .reg [.op (some 3) (.mov (.t 0)),
      .op (some 4) (.call (.c (.f 49 [])) [.t 3, .c (.n .i64 0), .c (.n .i64 400)]),
      .op (some 2) (.mov (.t 4))])
    (.ret))⟩
theorem B_impl_isFuel_ok : checkFn Try.prog Try.f67 B_impl_isFuel.toA = true := by kernel_rfl
theorem B_impl_isFuel_wf : B_impl_isFuel.body.wf = true := by kernel_rfl
theorem okFn_impl_isFuel : okFn Try.prog 67 = true := by kernel_rfl
def F_impl_isFuel (N : Nat) (a0 : Int) : Option Bool :=
  some (G_impl_within a0 (0 : Int) (400 : Int))
theorem F_impl_isFuel_run (N : Nat) (a0 : Int) :
    runF (O_impl_isFuel N) N B_impl_isFuel R_impl_isFuel (vals T_impl_isFuel a0) = F_impl_isFuel N a0 := by kernel_rfl
def G_impl_isFuel (a0 : Int) : Bool :=
  (G_impl_within a0 (0 : Int) (400 : Int))
theorem FG_impl_isFuel (N : Nat) (a0 : Int) : F_impl_isFuel N a0 = some (G_impl_isFuel a0) := by
  first | rfl | (simp only [F_impl_isFuel, G_impl_isFuel, cond_some]; done) | (unfold F_impl_isFuel G_impl_isFuel; simp only [cond_some]; done)
def o_impl_isFuel : List V → Bool × V := mkO T_impl_isFuel R_impl_isFuel (fun (x : Int) => true) (fun (x : Int) => G_impl_isFuel x)
theorem impl_isFuel_entry : Entry Try.prog 67 o_impl_isFuel := Entry.of fun (x : Int) _ =>
  Pf.of_run hm Try.func67 okFn_impl_isFuel B_impl_isFuel_ok B_impl_isFuel_wf (O_impl_isFuel_ok 0) rfl ((F_impl_isFuel_run 0 x).trans (FG_impl_isFuel 0 x))
/-! loop.example/g00526/impl.isCore -/
abbrev T_impl_isCore : List GT := [tCore]
abbrev R_impl_isCore : List GT := [.b]
def fin_impl_isCore : Fr2 → Hp → Option Bool := finF R_impl_isCore [.t 2]
def O_impl_isCore (N : Nat) : Orac := orc [(49, o_impl_within), (95, o_slices_ContainsFunc_int64_impl_isCore_c1 N), (66, o_impl_areBins N), (67, o_impl_isFuel)] []
theorem O_impl_isCore_ok (N : Nat) : OrcOk Try.prog (O_impl_isCore N) := OrcOk.of ⟨impl_within_entry, slices_ContainsFunc_int64_impl_isCore_c1_entry N, impl_areBins_entry N, impl_isFuel_entry, trivial⟩ trivial
def τ_impl_isCore : Nat → Option GT := fun _ => none
def B_impl_isCore : F2 := ⟨33, 1, [.t 2], τ_impl_isCore,
    .seq (.reg .reg [.op (some 1) (.box (.t 0)),
      .op (some 2) (.mov (.c (.b false)))])
    (.seq (.reg .reg [.op (some 3) (.fad 0 (.t 1)),
      .op (some 4) (.load 1 false (.t 3)),
      .op (some 5) (.call (.c (.f 49 [])) [.t 4, .c (.n .i64 0), .c (.n .i64 300)]),
      .op (some 6) (.mov (.t 5)),
      .br 6 true [.op (some 7) (.fad 1 (.t 1)), .op (some 8) (.load 1 false (.t 7)), .op (some 9) (.len false (.t 8)), .op (some 10) (.bin .leq (.t 9) (.c (.n .i64 12)))] [7, 8, 9, 10] 11 10,
      .op (some 12) (.mov (.t 11)),
      .br 12 true [.op (some 13) (.fad 1 (.t 1)), .op (some 14) (.load 1 false (.t 13)), .op (some 15) (.call (.c (.f 95 [])) [.t 14, .c (.f 96 [])]), .op (some 16) (.un .not (.t 15))] [13, 14, 15, 16] 17 16,
      .op (some 18) (.mov (.t 17)),
      .br 18 true [.op (some 19) (.fad 2 (.t 1)), .op (some 20) (.load 1 false (.t 19)), .op (some 21) (.call (.c (.f 66 [])) [.t 20])] [19, 20, 21] 22 21,
      .op (some 23) (.mov (.t 22)),
      .br 23 true [.op (some 24) (.fad 3 (.t 1)), .op (some 25) (.load 1 false (.t 24)), .op (some 26) (.call (.c (.f 67 [])) [.t 25])] [24, 25, 26] 27 26,
      .op (some 28) (.mov (.t 27)),
      .br 28 true [.op (some 29) (.fad 4 (.t 1)), .op (some 30) (.load 1 false (.t 29)), .op (some 31) (.call (.c (.f 49 [])) [.t 30, .c (.n .i64 0), .c (.n .i64 6)])] [29, 30, 31] 32 31,
      .op (some 2) (.mov (.t 32))])
    (.ret))⟩
theorem B_impl_isCore_ok : checkFn Try.prog Try.f62 B_impl_isCore.toA = true := by kernel_rfl
theorem B_impl_isCore_wf : B_impl_isCore.body.wf = true := by kernel_rfl
theorem okFn_impl_isCore : okFn Try.prog 62 = true := by kernel_rfl
def F_impl_isCore (N : Nat) (a0 : DCore) : Option Bool :=
  chk ((P_slices_ContainsFunc_int64_impl_isCore_c1 N a0.2.1 ()) || (!((G_impl_within a0.1 (0 : Int) (300 : Int)) && (ile ((a0.2.1.length) : Int) (12 : Int))))) <|
  chk ((P_impl_areBins N a0.2.2.1) || (!(((G_impl_within a0.1 (0 : Int) (300 : Int)) && (ile ((a0.2.1.length) : Int) (12 : Int))) && (!(G_slices_ContainsFunc_int64_impl_isCore_c1 N a0.2.1 ()))))) <|
  some ((((((G_impl_within a0.1 (0 : Int) (300 : Int)) && (ile ((a0.2.1.length) : Int) (12 : Int))) && (!(G_slices_ContainsFunc_int64_impl_isCore_c1 N a0.2.1 ()))) && (G_impl_areBins N a0.2.2.1)) && (G_impl_isFuel a0.2.2.2.1)) && (G_impl_within a0.2.2.2.2 (0 : Int) (6 : Int)))
theorem F_impl_isCore_run (N : Nat) (a0 : DCore) :
    runF (O_impl_isCore N) N B_impl_isCore R_impl_isCore (vals T_impl_isCore a0) = F_impl_isCore N a0 := by kernel_rfl
def P_impl_isCore (N : Nat) (a0 : DCore) : Bool := lock (F_impl_isCore N a0).isSome
def G_impl_isCore (N : Nat) (a0 : DCore) : Bool := lock ((F_impl_isCore N a0).getD false)
theorem FG_impl_isCore {N : Nat} (a0 : DCore) (h : P_impl_isCore N a0 = true) : F_impl_isCore N a0 = some (G_impl_isCore N a0) := by unfold P_impl_isCore at h; unfold G_impl_isCore; rw [lock_eq] at h ⊢; exact some_of_isSome h
theorem PG_impl_isCore {N : Nat} {a0 : DCore} {v : Bool} (h : F_impl_isCore N a0 = some v) : P_impl_isCore N a0 = true ∧ G_impl_isCore N a0 = v := by unfold P_impl_isCore G_impl_isCore; rw [h, lock_eq, lock_eq]; exact ⟨rfl, rfl⟩
def o_impl_isCore (N : Nat) : List V → Bool × V := mkO T_impl_isCore R_impl_isCore (fun (x : DCore) => P_impl_isCore N x) (fun (x : DCore) => G_impl_isCore N x)
theorem impl_isCore_entry (N : Nat) : Entry Try.prog 62 (o_impl_isCore N) := Entry.of fun (x : DCore) h =>
  Pf.of_run hm Try.func62 okFn_impl_isCore B_impl_isCore_ok B_impl_isCore_wf (O_impl_isCore_ok N) rfl ((F_impl_isCore_run N x).trans (FG_impl_isCore x h))
/-! loop.example/g00526/impl.CoreOk -/
abbrev T_impl_CoreOk : List GT := [tCore]
abbrev R_impl_CoreOk : List GT := [.b]
def fin_impl_CoreOk : Fr2 → Hp → Option Bool := finF R_impl_CoreOk [.t 2]
def O_impl_CoreOk (N : Nat) : Orac := orc [(62, o_impl_isCore N)] []
theorem O_impl_CoreOk_ok (N : Nat) : OrcOk Try.prog (O_impl_CoreOk N) := OrcOk.of ⟨impl_isCore_entry N, trivial⟩ trivial
def τ_impl_CoreOk : Nat → Option GT := fun _ => none
def B_impl_CoreOk : F2 := ⟨5, 1, [.t 2], τ_impl_CoreOk,
    .seq (.reg .reg [.op (some 1) (.box (.t 0)),
      .op (some 2) (.mov (.c (.b false)))])
    (.seq (.reg .reg [.op (some 3) (.load 5 true (.t 1)),
      .op (some 4) (.call (.c (.f 62 [])) [.t 3]),
      .op (some 2) (.mov (.t 4))])
    (.ret))⟩
theorem B_impl_CoreOk_ok : checkFn Try.prog Try.f18 B_impl_CoreOk.toA = true := by kernel_rfl
theorem B_impl_CoreOk_wf : B_impl_CoreOk.body.wf = true := by kernel_rfl
theorem okFn_impl_CoreOk : okFn Try.prog 18 = true := by kernel_rfl
def F_impl_CoreOk (N : Nat) (a0 : DCore) : Option Bool :=
  chk (P_impl_isCore N a0) <|
  some (G_impl_isCore N a0)
theorem F_impl_CoreOk_run (N : Nat) (a0 : DCore) :
    runF (O_impl_CoreOk N) N B_impl_CoreOk R_impl_CoreOk (vals T_impl_CoreOk a0) = F_impl_CoreOk N a0 := by kernel_rfl
def P_impl_CoreOk (N : Nat) (a0 : DCore) : Bool := lock (F_impl_CoreOk N a0).isSome
def G_impl_CoreOk (N : Nat) (a0 : DCore) : Bool := lock ((F_impl_CoreOk N a0).getD false)
theorem FG_impl_CoreOk {N : Nat} (a0 : DCore) (h : P_impl_CoreOk N a0 = true) : F_impl_CoreOk N a0 = some (G_impl_CoreOk N a0) := by unfold P_impl_CoreOk at h; unfold G_impl_CoreOk; rw [lock_eq] at h ⊢; exact some_of_isSome h
theorem PG_impl_CoreOk {N : Nat} {a0 : DCore} {v : Bool} (h : F_impl_CoreOk N a0 = some v) : P_impl_CoreOk N a0 = true ∧ G_impl_CoreOk N a0 = v := by unfold P_impl_CoreOk G_impl_CoreOk; rw [h, lock_eq, lock_eq]; exact ⟨rfl, rfl⟩
def o_impl_CoreOk (N : Nat) : List V → Bool × V := mkO T_impl_CoreOk R_impl_CoreOk (fun (x : DCore) => P_impl_CoreOk N x) (fun (x : DCore) => G_impl_CoreOk N x)
theorem impl_CoreOk_entry (N : Nat) : Entry Try.prog 18 (o_impl_CoreOk N) := Entry.of fun (x : DCore) h =>
  Pf.of_run hm Try.func18 okFn_impl_CoreOk B_impl_CoreOk_ok B_impl_CoreOk_wf (O_impl_CoreOk_ok N) rfl ((F_impl_CoreOk_run N x).trans (FG_impl_CoreOk x h))
/-! loop.example/g00526/laws.eqInt64S -/
abbrev T_laws_eqInt64S : List GT := [(.sl (.i .i64)), (.sl (.i .i64))]
abbrev R_laws_eqInt64S : List GT := [.b]
def fin_laws_eqInt64S : Fr2 → Hp → Option Bool := finF R_laws_eqInt64S [.t 4]
def O_laws_eqInt64S (N : Nat) : Orac := orc [] []
theorem O_laws_eqInt64S_ok (N : Nat) : OrcOk Try.prog (O_laws_eqInt64S N) := OrcOk.of trivial trivial
def c_laws_eqInt64S_1 : C2 :=
    .seq (.seq (.reg .reg [.op (some 11) (.mov (.t 5)),
      .op (some 12) (.mov (.t 0)),
      .op (some 13) (.len false (.t 12)),
      .op (some 14) (.bin .lss (.t 11) (.t 13))])
    (.cond (.t 14) (.skip)
    (.exit 0)))
    (.seq (.block 1 (.seq (.reg (.dline 9) [.op (some 17) (.mov (.t 0)),
      .op (some 18) (.mov (.t 5)),
      .op (some 19) (.iad 1 (.t 17) (.t 18)),
      .op (some 20) (.load 1 false (.t 19)),
      .op (some 21) (.mov (.t 1)),
      .op (some 22) (.mov (.t 5)),
      .op (some 23) (.iad 1 (.t 21) (.t 22)),
      .op (some 24) (.load 1 false (.t 23)),
      .op (some 25) (.bin .neq (.t 20) (.t 24))])
    (.cond (.t 25) (.seq (.reg .reg [.op (some 4) (.mov (.c (.b false)))])
    (.ret))
    (.skip))))
    (.reg .reg [.op (some 15) (.mov (.t 5)),
      .op (some 16) (.bin .add (.t 15) (.c (.n .i64 1))),
      .op (some 5) (.mov (.t 16))]))
def c_laws_eqInt64S_2 : C2 :=
    .seq (.reg .reg [.op (some 4) (.mov (.c (.b true)))])
    (.ret)
def τ_laws_eqInt64S : Nat → Option GT := fun _ => none
def B_laws_eqInt64S : F2 := ⟨26, 2, [.t 4], τ_laws_eqInt64S,
    .seq (.reg .reg [.op (some 4) (.mov (.c (.b false)))])
    (.seq (.seq (.reg .reg [.op (some 6) (.mov (.t 0)),
      .op (some 7) (.len false (.t 6)),
      .op (some 8) (.mov (.t 1)),
      .op (some 9) (.len false (.t 8)),
      .op (some 10) (.bin .neq (.t 7) (.t 9))])
    (.cond (.t 10) (.seq (.reg .reg [.op (some 4) (.mov (.c (.b false)))])
    (.ret))
    (.skip)))
    (.seq (.seq (.reg .reg [.op (some 5) (.mov (.c (.n .i64 0)))])
    (.block 0 (.loop [0, 1, 5] [] [] c_laws_eqInt64S_1)))
    (c_laws_eqInt64S_2)))⟩
theorem B_laws_eqInt64S_ok : checkFn Try.prog Try.f51 B_laws_eqInt64S.toA = true := by kernel_rfl
theorem B_laws_eqInt64S_wf : B_laws_eqInt64S.body.wf = true := by kernel_rfl
theorem okFn_laws_eqInt64S : okFn Try.prog 51 = true := by kernel_rfl
def laws_eqInt64S_l1s (r0 : Int → Option Bool) (k0_0 : Option Bool) (N : Nat) (a0 : List Int) (a1 : List Int) (v5_1 : Int) : Option Bool :=
  bif (ilt v5_1 ((a0.length) : Int)) then
    let x1 : Int := (a0.getD (v5_1.toNat) (0 : Int))
    let x2 : Int := (a1.getD (v5_1.toNat) (0 : Int))
    chk (inb v5_1 (a0.length)) <|
    chk (inb v5_1 (a1.length)) <|
    bif (!ieq x1 x2) then
      some false
    else
      r0 (w64 (v5_1 + (1 : Int)))
  else
    k0_0
theorem laws_eqInt64S_l1s_run (N : Nat) (C0 : Fr2 → Hp → Option Bool) (K0 : Option Nat → Fr2 → Hp → Option Bool) (a0 : List Int) (a1 : List Int) (v5_1 : Int) :
    rcode (O_laws_eqInt64S N) τ_laws_eqInt64S N fin_laws_eqInt64S c_laws_eqInt64S_1 [(0, .q (.i .i64) a0), (1, .q (.i .i64) a1), (5, .n .i64 v5_1)] ⟨1, []⟩ (roundK [0, 1, 5] [] [] C0 K0) = laws_eqInt64S_l1s (fun v5_1 => C0 [(0, .q (.i .i64) a0), (1, .q (.i .i64) a1), (5, .n .i64 v5_1)] ⟨1, []⟩) (K0 (some 0) [] ⟨1, []⟩) N a0 a1 v5_1 := by kernel_rfl
def laws_eqInt64S_x1_0 (N : Nat) : Option Bool :=
  some true
theorem laws_eqInt64S_x1_0_run (N : Nat)  :
    (blockK 0 (seqK' (fun fr H K => rcode (O_laws_eqInt64S N) τ_laws_eqInt64S N fin_laws_eqInt64S c_laws_eqInt64S_2 fr H K) (finK R_laws_eqInt64S [.t 4]))) (some 0) [] ⟨1, []⟩ = laws_eqInt64S_x1_0 N := by kernel_rfl
def laws_eqInt64S_l1 (k0_0 : Option Bool) (N : Nat) (a0 : List Int) (a1 : List Int) : Nat → Int → Option Bool
  | 0, _ => none
  | n + 1, v5_1 => laws_eqInt64S_l1s (laws_eqInt64S_l1 k0_0 N a0 a1 n) k0_0 N a0 a1 v5_1
def laws_eqInt64S_h1 (N : Nat) (a0 : List Int) (a1 : List Int) (v5_1 : Int) : Option Bool :=
  laws_eqInt64S_l1 (laws_eqInt64S_x1_0 N) N a0 a1 N v5_1
theorem laws_eqInt64S_l1_run (N : Nat)  (K : Option Nat → Fr2 → Hp → Option Bool) (a0 : List Int) (a1 : List Int) : ∀ (n : Nat) (v5_1 : Int),
    rloop (fun fr H K => rcode (O_laws_eqInt64S N) τ_laws_eqInt64S N fin_laws_eqInt64S c_laws_eqInt64S_1 fr H K) [0, 1, 5] [] [] K n [(0, .q (.i .i64) a0), (1, .q (.i .i64) a1), (5, .n .i64 v5_1)] ⟨1, []⟩ = laws_eqInt64S_l1 (K (some 0) [] ⟨1, []⟩) N a0 a1 n v5_1 := by
  intro n
  induction n with
  | zero => intro v5_1; kernel_rfl
  | succ n ih => intro v5_1; exact (laws_eqInt64S_l1s_run N (rloop (fun fr H K => rcode (O_laws_eqInt64S N) τ_laws_eqInt64S N fin_laws_eqInt64S c_laws_eqInt64S_1 fr H K) [0, 1, 5] [] [] K n) K a0 a1 v5_1).trans (congrArg (fun r => laws_eqInt64S_l1s r (K (some 0) [] ⟨1, []⟩) N a0 a1 v5_1) (funext fun v5_1 => ih v5_1))
theorem laws_eqInt64S_h1_run (N : Nat) (a0 : List Int) (a1 : List Int) (v5_1 : Int) : rloop (fun fr H K => rcode (O_laws_eqInt64S N) τ_laws_eqInt64S N fin_laws_eqInt64S c_laws_eqInt64S_1 fr H K) [0, 1, 5] [] [] (blockK 0 (seqK' (fun fr H K => rcode (O_laws_eqInt64S N) τ_laws_eqInt64S N fin_laws_eqInt64S c_laws_eqInt64S_2 fr H K) (finK R_laws_eqInt64S [.t 4]))) N [(0, .q (.i .i64) a0), (1, .q (.i .i64) a1), (5, .n .i64 v5_1)] ⟨1, []⟩ = laws_eqInt64S_h1 N a0 a1 v5_1 :=
  ((laws_eqInt64S_l1_run N (blockK 0 (seqK' (fun fr H K => rcode (O_laws_eqInt64S N) τ_laws_eqInt64S N fin_laws_eqInt64S c_laws_eqInt64S_2 fr H K) (finK R_laws_eqInt64S [.t 4]))) a0 a1 N v5_1)).trans (congrArg (fun h => laws_eqInt64S_l1 h N a0 a1 N v5_1) (laws_eqInt64S_x1_0_run N ))
def F_laws_eqInt64SR (N : Nat) (laws_eqInt64S_h1 : List Int → List Int → Int → Option Bool) (a0 : List Int) (a1 : List Int) : Option Bool :=
  bif (!ieq ((a0.length) : Int) ((a1.length) : Int)) then
    some false
  else
    laws_eqInt64S_h1 a0 a1 (0 : Int)
def F_laws_eqInt64S (N : Nat) (a0 : List Int) (a1 : List Int) : Option Bool := F_laws_eqInt64SR N (laws_eqInt64S_h1 N) a0 a1
theorem F_laws_eqInt64S_raw (N : Nat) (a0 : List Int) (a1 : List Int) :
    runF (O_laws_eqInt64S N) N B_laws_eqInt64S R_laws_eqInt64S (vals T_laws_eqInt64S (a0, a1)) = F_laws_eqInt64SR N (fun a0 a1 v5_1 => rloop (fun fr H K => rcode (O_laws_eqInt64S N) τ_laws_eqInt64S N fin_laws_eqInt64S c_laws_eqInt64S_1 fr H K) [0, 1, 5] [] [] (blockK 0 (seqK' (fun fr H K => rcode (O_laws_eqInt64S N) τ_laws_eqInt64S N fin_laws_eqInt64S c_laws_eqInt64S_2 fr H K) (finK R_laws_eqInt64S [.t 4]))) N [(0, .q (.i .i64) a0), (1, .q (.i .i64) a1), (5, .n .i64 v5_1)] ⟨1, []⟩) a0 a1 := by kernel_rfl
theorem F_laws_eqInt64S_run (N : Nat) (a0 : List Int) (a1 : List Int) :
    runF (O_laws_eqInt64S N) N B_laws_eqInt64S R_laws_eqInt64S (vals T_laws_eqInt64S (a0, a1)) = F_laws_eqInt64S N a0 a1 :=
  (F_laws_eqInt64S_raw N a0 a1).trans (congrArg (fun h => F_laws_eqInt64SR N h a0 a1) (funext fun a0 => funext fun a1 => funext fun v5_1 => laws_eqInt64S_h1_run N a0 a1 v5_1))
def P_laws_eqInt64S (N : Nat) (a0 : List Int) (a1 : List Int) : Bool := lock (F_laws_eqInt64S N a0 a1).isSome
def G_laws_eqInt64S (N : Nat) (a0 : List Int) (a1 : List Int) : Bool := lock ((F_laws_eqInt64S N a0 a1).getD false)
theorem FG_laws_eqInt64S {N : Nat} (a0 : List Int) (a1 : List Int) (h : P_laws_eqInt64S N a0 a1 = true) : F_laws_eqInt64S N a0 a1 = some (G_laws_eqInt64S N a0 a1) := by unfold P_laws_eqInt64S at h; unfold G_laws_eqInt64S; rw [lock_eq] at h ⊢; exact some_of_isSome h
theorem PG_laws_eqInt64S {N : Nat} {a0 : List Int} {a1 : List Int} {v : Bool} (h : F_laws_eqInt64S N a0 a1 = some v) : P_laws_eqInt64S N a0 a1 = true ∧ G_laws_eqInt64S N a0 a1 = v := by unfold P_laws_eqInt64S G_laws_eqInt64S; rw [h, lock_eq, lock_eq]; exact ⟨rfl, rfl⟩
def o_laws_eqInt64S (N : Nat) : List V → Bool × V := mkO T_laws_eqInt64S R_laws_eqInt64S (fun (x : (List Int × List Int)) => P_laws_eqInt64S N x.1 x.2) (fun (x : (List Int × List Int)) => G_laws_eqInt64S N x.1 x.2)
theorem laws_eqInt64S_entry (N : Nat) : Entry Try.prog 51 (o_laws_eqInt64S N) := Entry.of fun (x : (List Int × List Int)) h =>
  Pf.of_run hm Try.func51 okFn_laws_eqInt64S B_laws_eqInt64S_ok B_laws_eqInt64S_wf (O_laws_eqInt64S_ok N) rfl ((F_laws_eqInt64S_run N x.1 x.2).trans (FG_laws_eqInt64S x.1 x.2 h))
/-! loop.example/g00526/laws.eqBin -/
abbrev T_laws_eqBin : List GT := [tBin, tBin]
abbrev R_laws_eqBin : List GT := [.b]
def fin_laws_eqBin : Fr2 → Hp → Option Bool := finF R_laws_eqBin [.t 4]
def O_laws_eqBin (N : Nat) : Orac := orc [] []
theorem O_laws_eqBin_ok (N : Nat) : OrcOk Try.prog (O_laws_eqBin N) := OrcOk.of trivial trivial
def τ_laws_eqBin : Nat → Option GT := fun _ => none
def B_laws_eqBin : F2 := ⟨15, 2, [.t 4], τ_laws_eqBin,
    .seq (.reg .reg [.op (some 2) (.box (.t 0)),
      .op (some 3) (.box (.t 1)),
      .op (some 4) (.mov (.c (.b false)))])
    (.seq (.seq (.reg .reg [.op (some 5) (.fad 0 (.t 2)),
      .op (some 6) (.load 1 false (.t 5)),
      .op (some 7) (.fad 0 (.t 3)),
      .op (some 8) (.load 1 false (.t 7)),
      .op (some 9) (.bin .neq (.t 6) (.t 8))])
    (.cond (.t 9) (.seq (.reg .reg [.op (some 4) (.mov (.c (.b false)))])
    (.ret))
    (.skip)))
    (.seq (.seq (.reg .reg [.op (some 10) (.fad 1 (.t 2)),
      .op (some 11) (.load 1 false (.t 10)),
      .op (some 12) (.fad 1 (.t 3)),
      .op (some 13) (.load 1 false (.t 12)),
      .op (some 14) (.bin .neq (.t 11) (.t 13))])
    (.cond (.t 14) (.seq (.reg .reg [.op (some 4) (.mov (.c (.b false)))])
    (.ret))
    (.skip)))
    (.seq (.reg .reg [.op (some 4) (.mov (.c (.b true)))])
    (.ret))))⟩
theorem B_laws_eqBin_ok : checkFn Try.prog Try.f69 B_laws_eqBin.toA = true := by kernel_rfl
theorem B_laws_eqBin_wf : B_laws_eqBin.body.wf = true := by kernel_rfl
theorem okFn_laws_eqBin : okFn Try.prog 69 = true := by kernel_rfl
def F_laws_eqBin (N : Nat) (a0 : DBin) (a1 : DBin) : Option Bool :=
  bif (!decide (a0.1 = a1.1)) then
    some false
  else
    bif (!ieq a0.2 a1.2) then
      some false
    else
      some true
theorem F_laws_eqBin_run (N : Nat) (a0 : DBin) (a1 : DBin) :
    runF (O_laws_eqBin N) N B_laws_eqBin R_laws_eqBin (vals T_laws_eqBin (a0, a1)) = F_laws_eqBin N a0 a1 := by kernel_rfl
def G_laws_eqBin (a0 : DBin) (a1 : DBin) : Bool :=
  bif (!decide (a0.1 = a1.1)) then
    false
  else
    bif (!ieq a0.2 a1.2) then
      false
    else
      true
theorem FG_laws_eqBin (N : Nat) (a0 : DBin) (a1 : DBin) : F_laws_eqBin N a0 a1 = some (G_laws_eqBin a0 a1) := by
  first | rfl | (simp only [F_laws_eqBin, G_laws_eqBin, cond_some]; done) | (unfold F_laws_eqBin G_laws_eqBin; simp only [cond_some]; done)
def o_laws_eqBin : List V → Bool × V := mkO T_laws_eqBin R_laws_eqBin (fun (x : (DBin × DBin)) => true) (fun (x : (DBin × DBin)) => G_laws_eqBin x.1 x.2)
theorem laws_eqBin_entry : Entry Try.prog 69 o_laws_eqBin := Entry.of fun (x : (DBin × DBin)) _ =>
  Pf.of_run hm Try.func69 okFn_laws_eqBin B_laws_eqBin_ok B_laws_eqBin_wf (O_laws_eqBin_ok 0) rfl ((F_laws_eqBin_run 0 x.1 x.2).trans (FG_laws_eqBin 0 x.1 x.2))
/-! loop.example/g00526/laws.eqBinS -/
abbrev T_laws_eqBinS : List GT := [(.sl tBin), (.sl tBin)]
abbrev R_laws_eqBinS : List GT := [.b]
def fin_laws_eqBinS : Fr2 → Hp → Option Bool := finF R_laws_eqBinS [.t 4]
def O_laws_eqBinS (N : Nat) : Orac := orc [(69, o_laws_eqBin)] []
theorem O_laws_eqBinS_ok (N : Nat) : OrcOk Try.prog (O_laws_eqBinS N) := OrcOk.of ⟨laws_eqBin_entry, trivial⟩ trivial
def c_laws_eqBinS_1 : C2 :=
    .seq (.seq (.reg .reg [.op (some 11) (.mov (.t 5)),
      .op (some 12) (.mov (.t 0)),
      .op (some 13) (.len false (.t 12)),
      .op (some 14) (.bin .lss (.t 11) (.t 13))])
    (.cond (.t 14) (.skip)
    (.exit 0)))
    (.seq (.block 1 (.seq (.reg (.dlin 8 2) [.op (some 17) (.mov (.t 0)),
      .op (some 18) (.mov (.t 5)),
      .op (some 19) (.iad 2 (.t 17) (.t 18)),
      .op (some 20) (.load 2 true (.t 19)),
      .op (some 21) (.mov (.t 1)),
      .op (some 22) (.mov (.t 5)),
      .op (some 23) (.iad 2 (.t 21) (.t 22)),
      .op (some 24) (.load 2 true (.t 23)),
      .op (some 25) (.call (.c (.f 69 [])) [.t 20, .t 24]),
      .op (some 26) (.un .not (.t 25))])
    (.cond (.t 26) (.seq (.reg .reg [.op (some 4) (.mov (.c (.b false)))])
    (.ret))
    (.skip))))
    (.reg .reg [.op (some 15) (.mov (.t 5)),
      .op (some 16) (.bin .add (.t 15) (.c (.n .i64 1))),
      .op (some 5) (.mov (.t 16))]))
def c_laws_eqBinS_2 : C2 :=
    .seq (.reg .reg [.op (some 4) (.mov (.c (.b true)))])
    (.ret)
def τ_laws_eqBinS : Nat → Option GT := fun _ => none
def B_laws_eqBinS : F2 := ⟨27, 2, [.t 4], τ_laws_eqBinS,
    .seq (.reg .reg [.op (some 4) (.mov (.c (.b false)))])
    (.seq (.seq (.reg .reg [.op (some 6) (.mov (.t 0)),
      .op (some 7) (.len false (.t 6)),
      .op (some 8) (.mov (.t 1)),
      .op (some 9) (.len false (.t 8)),
      .op (some 10) (.bin .neq (.t 7) (.t 9))])
    (.cond (.t 10) (.seq (.reg .reg [.op (some 4) (.mov (.c (.b false)))])
    (.ret))
    (.skip)))
    (.seq (.seq (.reg .reg [.op (some 5) (.mov (.c (.n .i64 0)))])
    (.block 0 (.loop [0, 1, 5] [] [] c_laws_eqBinS_1)))
    (c_laws_eqBinS_2)))⟩
theorem B_laws_eqBinS_ok : checkFn Try.prog Try.f24 B_laws_eqBinS.toA = true := by kernel_rfl
theorem B_laws_eqBinS_wf : B_laws_eqBinS.body.wf = true := by kernel_rfl
theorem okFn_laws_eqBinS : okFn Try.prog 24 = true := by kernel_rfl
def laws_eqBinS_l1s (r0 : Int → Option Bool) (k0_0 : Option Bool) (N : Nat) (a0 : List DBin) (a1 : List DBin) (v5_1 : Int) : Option Bool :=
  bif (ilt v5_1 ((a0.length) : Int)) then
    let x1 : DBin := (a0.getD (v5_1.toNat) dBin)
    let x2 : DBin := (a1.getD (v5_1.toNat) dBin)
    chk (inb v5_1 (a0.length)) <|
    chk (inb v5_1 (a1.length)) <|
    bif (!(G_laws_eqBin x1 x2)) then
      some false
    else
      r0 (w64 (v5_1 + (1 : Int)))
  else
    k0_0
theorem laws_eqBinS_l1s_run (N : Nat) (C0 : Fr2 → Hp → Option Bool) (K0 : Option Nat → Fr2 → Hp → Option Bool) (a0 : List DBin) (a1 : List DBin) (v5_1 : Int) :
    rcode (O_laws_eqBinS N) τ_laws_eqBinS N fin_laws_eqBinS c_laws_eqBinS_1 [(0, .q tBin a0), (1, .q tBin a1), (5, .n .i64 v5_1)] ⟨1, []⟩ (roundK [0, 1, 5] [] [] C0 K0) = laws_eqBinS_l1s (fun v5_1 => C0 [(0, .q tBin a0), (1, .q tBin a1), (5, .n .i64 v5_1)] ⟨1, []⟩) (K0 (some 0) [] ⟨1, []⟩) N a0 a1 v5_1 := by kernel_rfl
def laws_eqBinS_x1_0 (N : Nat) : Option Bool :=
  some true
theorem laws_eqBinS_x1_0_run (N : Nat)  :
    (blockK 0 (seqK' (fun fr H K => rcode (O_laws_eqBinS N) τ_laws_eqBinS N fin_laws_eqBinS c_laws_eqBinS_2 fr H K) (finK R_laws_eqBinS [.t 4]))) (some 0) [] ⟨1, []⟩ = laws_eqBinS_x1_0 N := by kernel_rfl
def laws_eqBinS_l1 (k0_0 : Option Bool) (N : Nat) (a0 : List DBin) (a1 : List DBin) : Nat → Int → Option Bool
  | 0, _ => none
  | n + 1, v5_1 => laws_eqBinS_l1s (laws_eqBinS_l1 k0_0 N a0 a1 n) k0_0 N a0 a1 v5_1
def laws_eqBinS_h1 (N : Nat) (a0 : List DBin) (a1 : List DBin) (v5_1 : Int) : Option Bool :=
  laws_eqBinS_l1 (laws_eqBinS_x1_0 N) N a0 a1 N v5_1
theorem laws_eqBinS_l1_run (N : Nat)  (K : Option Nat → Fr2 → Hp → Option Bool) (a0 : List DBin) (a1 : List DBin) : ∀ (n : Nat) (v5_1 : Int),
    rloop (fun fr H K => rcode (O_laws_eqBinS N) τ_laws_eqBinS N fin_laws_eqBinS c_laws_eqBinS_1 fr H K) [0, 1, 5] [] [] K n [(0, .q tBin a0), (1, .q tBin a1), (5, .n .i64 v5_1)] ⟨1, []⟩ = laws_eqBinS_l1 (K (some 0) [] ⟨1, []⟩) N a0 a1 n v5_1 := by
  intro n
  induction n with
  | zero => intro v5_1; kernel_rfl
  | succ n ih => intro v5_1; exact (laws_eqBinS_l1s_run N (rloop (fun fr H K => rcode (O_laws_eqBinS N) τ_laws_eqBinS N fin_laws_eqBinS c_laws_eqBinS_1 fr H K) [0, 1, 5] [] [] K n) K a0 a1 v5_1).trans (congrArg (fun r => laws_eqBinS_l1s r (K (some 0) [] ⟨1, []⟩) N a0 a1 v5_1) (funext fun v5_1 => ih v5_1))
theorem laws_eqBinS_h1_run (N : Nat) (a0 : List DBin) (a1 : List DBin) (v5_1 : Int) : rloop (fun fr H K => rcode (O_laws_eqBinS N) τ_laws_eqBinS N fin_laws_eqBinS c_laws_eqBinS_1 fr H K) [0, 1, 5] [] [] (blockK 0 (seqK' (fun fr H K => rcode (O_laws_eqBinS N) τ_laws_eqBinS N fin_laws_eqBinS c_laws_eqBinS_2 fr H K) (finK R_laws_eqBinS [.t 4]))) N [(0, .q tBin a0), (1, .q tBin a1), (5, .n .i64 v5_1)] ⟨1, []⟩ = laws_eqBinS_h1 N a0 a1 v5_1 :=
  ((laws_eqBinS_l1_run N (blockK 0 (seqK' (fun fr H K => rcode (O_laws_eqBinS N) τ_laws_eqBinS N fin_laws_eqBinS c_laws_eqBinS_2 fr H K) (finK R_laws_eqBinS [.t 4]))) a0 a1 N v5_1)).trans (congrArg (fun h => laws_eqBinS_l1 h N a0 a1 N v5_1) (laws_eqBinS_x1_0_run N ))
def F_laws_eqBinSR (N : Nat) (laws_eqBinS_h1 : List DBin → List DBin → Int → Option Bool) (a0 : List DBin) (a1 : List DBin) : Option Bool :=
  bif (!ieq ((a0.length) : Int) ((a1.length) : Int)) then
    some false
  else
    laws_eqBinS_h1 a0 a1 (0 : Int)
def F_laws_eqBinS (N : Nat) (a0 : List DBin) (a1 : List DBin) : Option Bool := F_laws_eqBinSR N (laws_eqBinS_h1 N) a0 a1
theorem F_laws_eqBinS_raw (N : Nat) (a0 : List DBin) (a1 : List DBin) :
    runF (O_laws_eqBinS N) N B_laws_eqBinS R_laws_eqBinS (vals T_laws_eqBinS (a0, a1)) = F_laws_eqBinSR N (fun a0 a1 v5_1 => rloop (fun fr H K => rcode (O_laws_eqBinS N) τ_laws_eqBinS N fin_laws_eqBinS c_laws_eqBinS_1 fr H K) [0, 1, 5] [] [] (blockK 0 (seqK' (fun fr H K => rcode (O_laws_eqBinS N) τ_laws_eqBinS N fin_laws_eqBinS c_laws_eqBinS_2 fr H K) (finK R_laws_eqBinS [.t 4]))) N [(0, .q tBin a0), (1, .q tBin a1), (5, .n .i64 v5_1)] ⟨1, []⟩) a0 a1 := by kernel_rfl
theorem F_laws_eqBinS_run (N : Nat) (a0 : List DBin) (a1 : List DBin) :
    runF (O_laws_eqBinS N) N B_laws_eqBinS R_laws_eqBinS (vals T_laws_eqBinS (a0, a1)) = F_laws_eqBinS N a0 a1 :=
  (F_laws_eqBinS_raw N a0 a1).trans (congrArg (fun h => F_laws_eqBinSR N h a0 a1) (funext fun a0 => funext fun a1 => funext fun v5_1 => laws_eqBinS_h1_run N a0 a1 v5_1))
def P_laws_eqBinS (N : Nat) (a0 : List DBin) (a1 : List DBin) : Bool := lock (F_laws_eqBinS N a0 a1).isSome
def G_laws_eqBinS (N : Nat) (a0 : List DBin) (a1 : List DBin) : Bool := lock ((F_laws_eqBinS N a0 a1).getD false)
theorem FG_laws_eqBinS {N : Nat} (a0 : List DBin) (a1 : List DBin) (h : P_laws_eqBinS N a0 a1 = true) : F_laws_eqBinS N a0 a1 = some (G_laws_eqBinS N a0 a1) := by unfold P_laws_eqBinS at h; unfold G_laws_eqBinS; rw [lock_eq] at h ⊢; exact some_of_isSome h
theorem PG_laws_eqBinS {N : Nat} {a0 : List DBin} {a1 : List DBin} {v : Bool} (h : F_laws_eqBinS N a0 a1 = some v) : P_laws_eqBinS N a0 a1 = true ∧ G_laws_eqBinS N a0 a1 = v := by unfold P_laws_eqBinS G_laws_eqBinS; rw [h, lock_eq, lock_eq]; exact ⟨rfl, rfl⟩
def o_laws_eqBinS (N : Nat) : List V → Bool × V := mkO T_laws_eqBinS R_laws_eqBinS (fun (x : (List DBin × List DBin)) => P_laws_eqBinS N x.1 x.2) (fun (x : (List DBin × List DBin)) => G_laws_eqBinS N x.1 x.2)
theorem laws_eqBinS_entry (N : Nat) : Entry Try.prog 24 (o_laws_eqBinS N) := Entry.of fun (x : (List DBin × List DBin)) h =>
  Pf.of_run hm Try.func24 okFn_laws_eqBinS B_laws_eqBinS_ok B_laws_eqBinS_wf (O_laws_eqBinS_ok N) rfl ((F_laws_eqBinS_run N x.1 x.2).trans (FG_laws_eqBinS x.1 x.2 h))
/-! loop.example/g00526/laws.eqCore -/
abbrev T_laws_eqCore : List GT := [tCore, tCore]
abbrev R_laws_eqCore : List GT := [.b]
def fin_laws_eqCore : Fr2 → Hp → Option Bool := finF R_laws_eqCore [.t 4]
def O_laws_eqCore (N : Nat) : Orac := orc [(51, o_laws_eqInt64S N), (24, o_laws_eqBinS N)] []
theorem O_laws_eqCore_ok (N : Nat) : OrcOk Try.prog (O_laws_eqCore N) := OrcOk.of ⟨laws_eqInt64S_entry N, laws_eqBinS_entry N, trivial⟩ trivial
def τ_laws_eqCore : Nat → Option GT := fun _ => none
def B_laws_eqCore : F2 := ⟨32, 2, [.t 4], τ_laws_eqCore,
    .seq (.reg .reg [.op (some 2) (.box (.t 0)),
      .op (some 3) (.box (.t 1)),
      .op (some 4) (.mov (.c (.b false)))])
    (.seq (.seq (.reg .reg [.op (some 5) (.fad 0 (.t 2)),
      .op (some 6) (.load 1 false (.t 5)),
      .op (some 7) (.fad 0 (.t 3)),
      .op (some 8) (.load 1 false (.t 7)),
      .op (some 9) (.bin .neq (.t 6) (.t 8))])
    (.cond (.t 9) (.seq (.reg .reg [.op (some 4) (.mov (.c (.b false)))])
    (.ret))
    (.skip)))
    (.seq (.seq (.reg .reg [.op (some 10) (.fad 1 (.t 2)),
      .op (some 11) (.load 1 false (.t 10)),
      .op (some 12) (.fad 1 (.t 3)),
      .op (some 13) (.load 1 false (.t 12)),
      .op (some 14) (.call (.c (.f 51 [])) [.t 11, .t 13]),
      .op (some 15) (.un .not (.t 14))])
    (.cond (.t 15) (.seq (.reg .reg [.op (some 4) (.mov (.c (.b false)))])
    (.ret))
    (.skip)))
    (.seq (.seq (.reg .reg [.op (some 16) (.fad 2 (.t 2)),
      .op (some 17) (.load 1 false (.t 16)),
      .op (some 18) (.fad 2 (.t 3)),
      .op (some 19) (.load 1 false (.t 18)),
      .op (some 20) (.call (.c (.f 24 [])) [.t 17, .t 19]),
      .op (some 21) (.un .not (.t 20))])
    (.cond (.t 21) (.seq (.reg .reg [.op (some 4) (.mov (.c (.b false)))])
    (.ret))
    (.skip)))
    (.seq (.seq (.reg .reg [.op (some 22) (.fad 3 (.t 2)),
      .op (some 23) (.load 1 false (.t 22)),
      .op (some 24) (.fad 3 (.t 3)),
      .op (some 25) (.load 1 false (.t 24)),
      .op (some 26) (.bin .neq (.t 23) (.t 25))])
    (.cond (.t 26) (.seq (.reg .reg [.op (some 4) (.mov (.c (.b false)))])
    (.ret))
    (.skip)))
    (.seq (.seq (.reg .reg [.op (some 27) (.fad 4 (.t 2)),
      .op (some 28) (.load 1 false (.t 27)),
      .op (some 29) (.fad 4 (.t 3)),
      .op (some 30) (.load 1 false (.t 29)),
      .op (some 31) (.bin .neq (.t 28) (.t 30))])
    (.cond (.t 31) (.seq (.reg .reg [.op (some 4) (.mov (.c (.b false)))])
    (.ret))
    (.skip)))
    (.seq (.reg .reg [.op (some 4) (.mov (.c (.b true)))])
    (.ret)))))))⟩
theorem B_laws_eqCore_ok : checkFn Try.prog Try.f19 B_laws_eqCore.toA = true := by kernel_rfl
theorem B_laws_eqCore_wf : B_laws_eqCore.body.wf = true := by kernel_rfl
theorem okFn_laws_eqCore : okFn Try.prog 19 = true := by kernel_rfl
def F_laws_eqCore (N : Nat) (a0 : DCore) (a1 : DCore) : Option Bool :=
  bif (!ieq a0.1 a1.1) then
    some false
  else
    chk (P_laws_eqInt64S N a0.2.1 a1.2.1) <|
    bif (!(G_laws_eqInt64S N a0.2.1 a1.2.1)) then
      some false
    else
      chk (P_laws_eqBinS N a0.2.2.1 a1.2.2.1) <|
      bif (!(G_laws_eqBinS N a0.2.2.1 a1.2.2.1)) then
        some false
      else
        bif (!ieq a0.2.2.2.1 a1.2.2.2.1) then
          some false
        else
          bif (!ieq a0.2.2.2.2 a1.2.2.2.2) then
            some false
          else
            some true
theorem F_laws_eqCore_run (N : Nat) (a0 : DCore) (a1 : DCore) :
    runF (O_laws_eqCore N) N B_laws_eqCore R_laws_eqCore (vals T_laws_eqCore (a0, a1)) = F_laws_eqCore N a0 a1 := by kernel_rfl
def P_laws_eqCore (N : Nat) (a0 : DCore) (a1 : DCore) : Bool := lock (F_laws_eqCore N a0 a1).isSome
def G_laws_eqCore (N : Nat) (a0 : DCore) (a1 : DCore) : Bool := lock ((F_laws_eqCore N a0 a1).getD false)
theorem FG_laws_eqCore {N : Nat} (a0 : DCore) (a1 : DCore) (h : P_laws_eqCore N a0 a1 = true) : F_laws_eqCore N a0 a1 = some (G_laws_eqCore N a0 a1) := by unfold P_laws_eqCore at h; unfold G_laws_eqCore; rw [lock_eq] at h ⊢; exact some_of_isSome h
theorem PG_laws_eqCore {N : Nat} {a0 : DCore} {a1 : DCore} {v : Bool} (h : F_laws_eqCore N a0 a1 = some v) : P_laws_eqCore N a0 a1 = true ∧ G_laws_eqCore N a0 a1 = v := by unfold P_laws_eqCore G_laws_eqCore; rw [h, lock_eq, lock_eq]; exact ⟨rfl, rfl⟩
def o_laws_eqCore (N : Nat) : List V → Bool × V := mkO T_laws_eqCore R_laws_eqCore (fun (x : (DCore × DCore)) => P_laws_eqCore N x.1 x.2) (fun (x : (DCore × DCore)) => G_laws_eqCore N x.1 x.2)
theorem laws_eqCore_entry (N : Nat) : Entry Try.prog 19 (o_laws_eqCore N) := Entry.of fun (x : (DCore × DCore)) h =>
  Pf.of_run hm Try.func19 okFn_laws_eqCore B_laws_eqCore_ok B_laws_eqCore_wf (O_laws_eqCore_ok N) rfl ((F_laws_eqCore_run N x.1 x.2).trans (FG_laws_eqCore x.1 x.2 h))
/-! loop.example/g00526/laws.FnExactCoreOk -/
abbrev T_laws_FnExactCoreOk : List GT := [tCore]
abbrev R_laws_FnExactCoreOk : List GT := [.b]
def fin_laws_FnExactCoreOk : Fr2 → Hp → Option Bool := finF R_laws_FnExactCoreOk [.t 2]
def O_laws_FnExactCoreOk (N : Nat) : Orac := orc [(15, o_laws_szCore N), (17, o_laws_toCore N), (16, o_spec_CoreOk N), (18, o_impl_CoreOk N), (19, o_laws_eqCore N)] []
theorem O_laws_FnExactCoreOk_ok (N : Nat) : OrcOk Try.prog (O_laws_FnExactCoreOk N) := OrcOk.of ⟨laws_szCore_entry N, laws_toCore_entry N, spec_CoreOk_entry N, impl_CoreOk_entry N, laws_eqCore_entry N, trivial⟩ trivial
def τ_laws_FnExactCoreOk : Nat → Option GT := fun _ => none
def B_laws_FnExactCoreOk : F2 := ⟨27, 1, [.t 2], τ_laws_FnExactCoreOk,
    .seq (.reg .reg [.op (some 1) (.box (.t 0)),
      .op (some 2) (.mov (.c (.b false)))])
    (.seq (.reg .reg [.op (some 3) (.mov (.c (.n .i64 1048576)))])
    (.seq (.reg .reg [.op (some 7) (.load 5 true (.t 1)),
      .op (some 8) (.mov (.t 3)),
      .op (some 9) (.call (.c (.f 15 [])) [.t 7, .t 8]),
      .op (some 3) (.mov (.t 9))])
    (.seq (.seq (.reg .reg [.op (some 10) (.mov (.t 3)),
      .op (some 11) (.bin .lss (.t 10) (.c (.n .i64 0)))])
    (.cond (.t 11) (.seq (.reg .reg [.op (some 2) (.mov (.c (.b true)))])
    (.ret))
    (.skip)))
    (.seq (.reg .reg [.op (some 12) (.load 5 true (.t 1)),
      .op (some 13) (.call (.c (.f 17 [])) [.t 12]),
      .op (some 14) (.call (.c (.f 16 [])) [.t 13]),
      .op (some 4) (.mov (.t 14))])
    (.seq (.reg .reg [.op (some 15) (.load 5 true (.t 1)),
      .op (some 16) (.call (.c (.f 17 [])) [.t 15]),
      .op (some 5) (.aloc [.n .i64 0, .l 0 0 0, .l 0 0 0, .n .i64 0, .n .i64 0]),
      .op none (.stor 5 (.t 5) (.t 16))])
    (.seq (.reg .reg [.op (some 17) (.load 5 true (.t 5)),
      .op (some 18) (.call (.c (.f 18 [])) [.t 17]),
      .op (some 6) (.mov (.t 18))])
    (.seq (.seq (.reg .reg [.op (some 19) (.mov (.t 6)),
      .op (some 20) (.mov (.t 4)),
      .op (some 21) (.beq true (.t 19) (.t 20))])
    (.cond (.t 21) (.seq (.reg .reg [.op (some 2) (.mov (.c (.b false)))])
    (.ret))
    (.skip)))
    (.seq (.seq (.reg (.dlin 2 3) [.op (some 22) (.load 5 true (.t 5)),
      .op (some 23) (.load 5 true (.t 1)),
      .op (some 24) (.call (.c (.f 17 [])) [.t 23]),
      .op (some 25) (.call (.c (.f 19 [])) [.t 22, .t 24]),
      .op (some 26) (.un .not (.t 25))])
    (.cond (.t 26) (.seq (.reg .reg [.op (some 2) (.mov (.c (.b false)))])
    (.ret))
    (.skip)))
    (.seq (.reg .reg [.op (some 2) (.mov (.c (.b true)))])
    (.ret))))))))))⟩
theorem B_laws_FnExactCoreOk_ok : checkFn Try.prog Try.f4 B_laws_FnExactCoreOk.toA = true := by kernel_rfl
theorem B_laws_FnExactCoreOk_wf : B_laws_FnExactCoreOk.body.wf = true := by kernel_rfl
theorem okFn_laws_FnExactCoreOk : okFn Try.prog 4 = true := by kernel_rfl
def F_laws_FnExactCoreOk (N : Nat) (a0 : DCore) : Option Bool :=
  chk (P_laws_szCore N a0 (1048576 : Int)) <|
  bif (ilt (G_laws_szCore N a0 (1048576 : Int)) (0 : Int)) then
    some true
  else
    let r1 : DCore := (G_laws_toCore N a0)
    chk (P_laws_toCore N a0) <|
    chk (P_spec_CoreOk N r1) <|
    let r2 : DCore := (G_laws_toCore N a0)
    chk (P_laws_toCore N a0) <|
    chk (P_impl_CoreOk N r2) <|
    bif (!((G_impl_CoreOk N r2) == (G_spec_CoreOk N r1))) then
      some false
    else
      let r3 : DCore := (G_laws_toCore N a0)
      chk (P_laws_toCore N a0) <|
      chk (P_laws_eqCore N r2 r3) <|
      bif (!(G_laws_eqCore N r2 r3)) then
        some false
      else
        some true
theorem F_laws_FnExactCoreOk_run (N : Nat) (a0 : DCore) :
    runF (O_laws_FnExactCoreOk N) N B_laws_FnExactCoreOk R_laws_FnExactCoreOk (vals T_laws_FnExactCoreOk a0) = F_laws_FnExactCoreOk N a0 := by kernel_rfl
def P_laws_FnExactCoreOk (N : Nat) (a0 : DCore) : Bool := lock (F_laws_FnExactCoreOk N a0).isSome
def G_laws_FnExactCoreOk (N : Nat) (a0 : DCore) : Bool := lock ((F_laws_FnExactCoreOk N a0).getD false)
theorem FG_laws_FnExactCoreOk {N : Nat} (a0 : DCore) (h : P_laws_FnExactCoreOk N a0 = true) : F_laws_FnExactCoreOk N a0 = some (G_laws_FnExactCoreOk N a0) := by unfold P_laws_FnExactCoreOk at h; unfold G_laws_FnExactCoreOk; rw [lock_eq] at h ⊢; exact some_of_isSome h
theorem PG_laws_FnExactCoreOk {N : Nat} {a0 : DCore} {v : Bool} (h : F_laws_FnExactCoreOk N a0 = some v) : P_laws_FnExactCoreOk N a0 = true ∧ G_laws_FnExactCoreOk N a0 = v := by unfold P_laws_FnExactCoreOk G_laws_FnExactCoreOk; rw [h, lock_eq, lock_eq]; exact ⟨rfl, rfl⟩
def o_laws_FnExactCoreOk (N : Nat) : List V → Bool × V := mkO T_laws_FnExactCoreOk R_laws_FnExactCoreOk (fun (x : DCore) => P_laws_FnExactCoreOk N x) (fun (x : DCore) => G_laws_FnExactCoreOk N x)
theorem laws_FnExactCoreOk_entry (N : Nat) : Entry Try.prog 4 (o_laws_FnExactCoreOk N) := Entry.of fun (x : DCore) h =>
  Pf.of_run hm Try.func4 okFn_laws_FnExactCoreOk B_laws_FnExactCoreOk_ok B_laws_FnExactCoreOk_wf (O_laws_FnExactCoreOk_ok N) rfl ((F_laws_FnExactCoreOk_run N x).trans (FG_laws_FnExactCoreOk x h))
end
end Go.Proofs.Ytfeedfknflbpjaa.AM
