/- The texts of the functions that the law FnExactHouseOk reaches, what their runs yield, and their contracts. Printed by a program. -/
import Derived.Test.YtamnlngihccgiaaGFnExactHouseOka
namespace Go.Proofs.Ytamnlngihccgiaa.AM
open Go
set_option linter.all false
set_option maxRecDepth 100000
noncomputable section
/-! loop.example/g00526/impl.isKeeper -/
abbrev T_impl_isKeeper : List GT := [tKeeper]
abbrev R_impl_isKeeper : List GT := [.b]
def fin_impl_isKeeper : Fr2 → Hp → Option Bool := finF R_impl_isKeeper [.t 2]
def O_impl_isKeeper (N : Nat) : Orac := orc [(70, o_impl_size_Item), (101, o_impl_isItem N), (102, o_impl_within), (103, o_impl_areWithin N)] []
theorem O_impl_isKeeper_ok (N : Nat) : OrcOk Try.prog (O_impl_isKeeper N) := OrcOk.of ⟨impl_size_Item_entry, impl_isItem_entry N, impl_within_entry, impl_areWithin_entry N, trivial⟩ trivial
def c_impl_isKeeper_1 : C2 :=
    .seq (.reg .reg [.op (some 15) (.bin .lss (.t 14) (.t 13))])
    (.seq (.cond (.t 15) (.skip)
    (.exit 0))
    (.seq (.block 1 (.seq (.reg .reg [.op (some 16) (.iad 2 (.t 12) (.t 14)),
      .op (some 17) (.load 2 true (.t 16)),
      .op (some 6) (.aloc [.n .i64 0, .s ⟨#[]⟩]),
      .op none (.stor 2 (.t 6) (.t 17))])
    (.seq (.seq (.reg .reg [.op (some 18) (.load 2 true (.t 6)),
      .op (some 19) (.call (.c (.f 101 [])) [.t 18]),
      .op (some 20) (.un .not (.t 19)),
      .op (some 21) (.mov (.t 20)),
      .br 21 false [.op (some 22) (.fad 0 (.t 6)), .op (some 23) (.load 1 false (.t 22)), .op (some 24) (.mov (.t 4)), .op (some 25) (.bin .lss (.t 23) (.t 24))] [22, 23, 24, 25] 26 25])
    (.cond (.t 26) (.seq (.reg .reg [.op (some 2) (.mov (.c (.b false)))])
    (.ret))
    (.skip)))
    (.reg .reg [.op (some 27) (.fad 0 (.t 6)),
      .op (some 28) (.load 1 false (.t 27)),
      .op (some 4) (.mov (.t 28))]))))
    (.reg .reg [.op (some 29) (.bin .add (.t 14) (.c (.n .i64 1))),
      .op (some 14) (.mov (.t 29))])))
def c_impl_isKeeper_2 : C2 :=
    .seq (.reg .reg [.op (some 33) (.fad 0 (.t 1)),
      .op (some 34) (.load 1 false (.t 33)),
      .op (some 35) (.call (.c (.f 102 [])) [.t 34, .c (.n .i64 0), .c (.n .i64 2)]),
      .op (some 36) (.mov (.t 35)),
      .br 36 true [.op (some 37) (.fad 1 (.t 1)), .op (some 38) (.load 1 false (.t 37)), .op (some 39) (.call (.c (.f 102 [])) [.t 38, .c (.n .i64 0), .c (.n .i64 1000)])] [37, 38, 39] 40 39,
      .op (some 41) (.mov (.t 40)),
      .br 41 true [.op (some 42) (.fad 2 (.t 1)), .op (some 43) (.load 1 false (.t 42)), .op (some 44) (.call (.c (.f 102 [])) [.t 43, .c (.n .i64 (-1)), .c (.n .i64 2)])] [42, 43, 44] 45 44,
      .op (some 46) (.mov (.t 45)),
      .br 46 true [.op (some 47) (.mov (.t 3)), .op (some 48) (.bin .leq (.t 47) (.c (.n .i64 40)))] [47, 48] 49 48,
      .op (some 50) (.mov (.t 49)),
      .br 50 true [.op (some 51) (.mov (.t 4)), .op (some 52) (.fad 1 (.t 1)), .op (some 53) (.load 1 false (.t 52)), .op (some 54) (.bin .leq (.t 51) (.t 53))] [51, 52, 53, 54] 55 54,
      .op (some 56) (.mov (.t 55)),
      .br 56 true [.op (some 57) (.fad 4 (.t 1)), .op (some 58) (.load 1 false (.t 57)), .op (some 59) (.call (.c (.f 102 [])) [.t 58, .c (.n .i64 0), .c (.n .i64 2)])] [57, 58, 59] 60 59,
      .op (some 61) (.mov (.t 60)),
      .br 61 true [.op (some 62) (.fad 4 (.t 1)), .op (some 63) (.load 1 false (.t 62)), .op (some 64) (.bin .eql (.t 63) (.c (.n .i64 0))), .op (some 65) (.mov (.t 64)), .br 65 false [.op (some 66) (.fad 1 (.t 1)), .op (some 67) (.load 1 false (.t 66)), .op (some 68) (.bin .geq (.t 67) (.c (.n .i64 1)))] [66, 67, 68] 69 68] [62, 63, 64, 65, 66, 67, 68, 69] 70 69,
      .op (some 71) (.mov (.t 70)),
      .br 71 true [.op (some 72) (.fad 5 (.t 1)), .op (some 73) (.load 1 false (.t 72)), .op (some 74) (.call (.c (.f 102 [])) [.t 73, .c (.n .i64 0), .c (.n .i64 7)])] [72, 73, 74] 75 74,
      .op (some 76) (.mov (.t 75)),
      .br 76 true [.op (some 77) (.fad 6 (.t 1)), .op (some 78) (.load 1 false (.t 77)), .op (some 79) (.mov (.t 3)), .op (some 80) (.call (.c (.f 102 [])) [.t 78, .c (.n .i64 0), .t 79])] [77, 78, 79, 80] 81 80,
      .op (some 82) (.mov (.t 81)),
      .br 82 true [.op (some 83) (.fad 7 (.t 1)), .op (some 84) (.load 1 false (.t 83)), .op (some 85) (.mov (.t 7)), .op (some 86) (.mov (.t 3)), .op (some 87) (.bin .add (.t 86) (.c (.n .i64 1))), .op (some 88) (.call (.c (.f 103 [])) [.t 84, .t 85, .c (.n .i64 1), .t 87])] [83, 84, 85, 86, 87, 88] 89 88,
      .op (some 90) (.mov (.t 89)),
      .br 90 true [.op (some 91) (.fad 8 (.t 1)), .op (some 92) (.load 1 false (.t 91)), .op (some 93) (.mov (.t 7)), .op (some 94) (.mov (.t 3)), .op (some 95) (.call (.c (.f 103 [])) [.t 92, .t 93, .c (.n .i64 0), .t 94])] [91, 92, 93, 94, 95] 96 95,
      .op (some 97) (.mov (.t 96)),
      .br 97 true [.op (some 98) (.fad 9 (.t 1)), .op (some 99) (.load 1 false (.t 98)), .op (some 100) (.un .not (.t 99)), .op (some 101) (.mov (.t 100)), .br 101 false [.op (some 102) (.fad 4 (.t 1)), .op (some 103) (.load 1 false (.t 102)), .op (some 104) (.bin .eql (.t 103) (.c (.n .i64 0))), .op (some 105) (.mov (.t 104)), .br 105 true [.op (some 106) (.fad 6 (.t 1)), .op (some 107) (.load 1 false (.t 106)), .op (some 108) (.bin .eql (.t 107) (.c (.n .i64 0)))] [106, 107, 108] 109 108, .op (some 110) (.mov (.t 109)), .br 110 true [.op (some 111) (.fad 5 (.t 1)), .op (some 112) (.load 1 false (.t 111)), .op (some 113) (.bin .eql (.t 112) (.c (.n .i64 0)))] [111, 112, 113] 114 113] [102, 103, 104, 105, 106, 107, 108, 109, 110, 111, 112, 113, 114] 115 114] [98, 99, 100, 101, 102, 103, 104, 105, 106, 107, 108, 109, 110, 111, 112, 113, 114, 115] 116 115,
      .op (some 2) (.mov (.t 116))])
    (.ret)
def c_impl_isKeeper_3 : C2 :=
    .seq (.reg .reg [.op (some 7) (.mov (.c (.n .i64 0)))])
    (.seq (.norm [1, 3, 4, 7] [] (.seq (.reg .reg [.op (some 30) (.fad 4 (.t 1)),
      .op (some 31) (.load 1 false (.t 30)),
      .op (some 32) (.bin .eql (.t 31) (.c (.n .i64 2)))])
    (.cond (.t 32) (.reg .reg [.op (some 7) (.mov (.c (.n .i64 3)))])
    (.skip))))
    (c_impl_isKeeper_2))
def τ_impl_isKeeper : Nat → Option GT := fun _ => none
def B_impl_isKeeper : F2 := ⟨117, 1, [.t 2], τ_impl_isKeeper,
    .seq (.reg .reg [.op (some 1) (.box (.t 0)),
      .op (some 2) (.mov (.c (.b false)))])
    (.seq (.reg .reg [.op (some 8) (.fad 3 (.t 1)),
      .op (some 9) (.load 1 false (.t 8)),
      .op (some 10) (.call (.c (.f 70 [])) [.t 9]),
      .op (some 3) (.mov (.t 10))])
    (.seq (.reg .reg [.op (some 4) (.mov (.c (.n .i64 0)))])
    (.seq (.seq (.reg .reg [.op (some 11) (.fad 3 (.t 1)),
      .op (some 12) (.load 1 false (.t 11)),
      .op (some 13) (.len false (.t 12)),
      .op (some 14) (.mov (.c (.n .i64 0)))])
    (.block 0 (.loop [1, 3, 4, 12, 13, 14] [] [1, 3, 4] c_impl_isKeeper_1)))
    (c_impl_isKeeper_3))))⟩
theorem B_impl_isKeeper_ok : checkFn Try.prog Try.f67 B_impl_isKeeper.toA = true := by kernel_rfl
theorem B_impl_isKeeper_wf : B_impl_isKeeper.body.wf = true := by kernel_rfl
theorem okFn_impl_isKeeper : okFn Try.prog 67 = true := by kernel_rfl
def impl_isKeeper_l1s (r0 : Int → Int → Option Bool) (k0_0 : Int → Option Bool) (N : Nat) (pv3_1 : Int) (v4_1 : Int) (pv12_1 : List DItem) (pv13_1 : Int) (v14_1 : Int) (pb1_1 : Int) (pb1_1_2 : Int) (pb1_1_3 : Int) (pb1_1_4 : List DItem) (pb1_1_5 : Int) (pb1_1_6 : Int) (pb1_1_7 : Int) (pb1_1_8 : List Int) (pb1_1_9 : List Int) (pb1_1_10 : Bool) : Option Bool :=
  bif (ilt v14_1 pv13_1) then
    let x1 : DItem := (pv12_1.getD (v14_1.toNat) dItem)
    chk (inb v14_1 (pv12_1.length)) <|
    chk (P_impl_isItem N x1) <|
    bif ((!(G_impl_isItem N x1)) || (ilt x1.1 v4_1)) then
      some false
    else
      r0 x1.1 (w64 (v14_1 + (1 : Int)))
  else
    k0_0 v4_1
theorem impl_isKeeper_l1s_run (N : Nat) (C0 : Fr2 → Hp → Option Bool) (K0 : Option Nat → Fr2 → Hp → Option Bool) (pv3_1 : Int) (v4_1 : Int) (pv12_1 : List DItem) (pv13_1 : Int) (v14_1 : Int) (pb1_1 : Int) (pb1_1_2 : Int) (pb1_1_3 : Int) (pb1_1_4 : List DItem) (pb1_1_5 : Int) (pb1_1_6 : Int) (pb1_1_7 : Int) (pb1_1_8 : List Int) (pb1_1_9 : List Int) (pb1_1_10 : Bool) :
    rcode (O_impl_isKeeper N) τ_impl_isKeeper N fin_impl_isKeeper c_impl_isKeeper_1 [(1, .p 1 0 0), (3, .n .i64 pv3_1), (4, .n .i64 v4_1), (12, .q tItem pv12_1), (13, .n .i64 pv13_1), (14, .n .i64 v14_1)] ⟨2, [(1, .un 10 [[.n .i64 pb1_1, .n .i64 pb1_1_2, .n .i64 pb1_1_3, .q tItem pb1_1_4, .n .i64 pb1_1_5, .n .i64 pb1_1_6, .n .i64 pb1_1_7, .q (.i .i64) pb1_1_8, .q (.i .i64) pb1_1_9, .b pb1_1_10]])]⟩ (roundK [1, 3, 4, 12, 13, 14] [] [1, 3, 4] C0 K0) = impl_isKeeper_l1s (fun v4_1 v14_1 => C0 [(1, .p 1 0 0), (3, .n .i64 pv3_1), (4, .n .i64 v4_1), (12, .q tItem pv12_1), (13, .n .i64 pv13_1), (14, .n .i64 v14_1)] ⟨2, [(1, .un 10 [[.n .i64 pb1_1, .n .i64 pb1_1_2, .n .i64 pb1_1_3, .q tItem pb1_1_4, .n .i64 pb1_1_5, .n .i64 pb1_1_6, .n .i64 pb1_1_7, .q (.i .i64) pb1_1_8, .q (.i .i64) pb1_1_9, .b pb1_1_10]])]⟩) (fun ev4_1 => K0 (some 0) [(1, .p 1 0 0), (3, .n .i64 pv3_1), (4, .n .i64 ev4_1)] ⟨2, [(1, .un 10 [[.n .i64 pb1_1, .n .i64 pb1_1_2, .n .i64 pb1_1_3, .q tItem pb1_1_4, .n .i64 pb1_1_5, .n .i64 pb1_1_6, .n .i64 pb1_1_7, .q (.i .i64) pb1_1_8, .q (.i .i64) pb1_1_9, .b pb1_1_10]])]⟩) N pv3_1 v4_1 pv12_1 pv13_1 v14_1 pb1_1 pb1_1_2 pb1_1_3 pb1_1_4 pb1_1_5 pb1_1_6 pb1_1_7 pb1_1_8 pb1_1_9 pb1_1_10 := by kernel_rfl
def impl_isKeeper_j1 (N : Nat) (pv3_1 : Int) (ev4_1 : Int) (jv7 : Int) (pb1_1 : Int) (pb1_1_2 : Int) (pb1_1_3 : Int) (pb1_1_4 : List DItem) (pb1_1_5 : Int) (pb1_1_6 : Int) (pb1_1_7 : Int) (pb1_1_8 : List Int) (pb1_1_9 : List Int) (pb1_1_10 : Bool) : Option Bool :=
  chk ((P_impl_areWithin N pb1_1_8 jv7 (1 : Int) (w64 (pv3_1 + (1 : Int)))) || (!(((((((((G_impl_within pb1_1 (0 : Int) (2 : Int)) && (G_impl_within pb1_1_2 (0 : Int) (1000 : Int))) && (G_impl_within pb1_1_3 (-1 : Int) (2 : Int))) && (ile pv3_1 (40 : Int))) && (ile ev4_1 pb1_1_2)) && (G_impl_within pb1_1_5 (0 : Int) (2 : Int))) && ((ieq pb1_1_5 (0 : Int)) || (ile (1 : Int) pb1_1_2))) && (G_impl_within pb1_1_6 (0 : Int) (7 : Int))) && (G_impl_within pb1_1_7 (0 : Int) pv3_1)))) <|
  chk ((P_impl_areWithin N pb1_1_9 jv7 (0 : Int) pv3_1) || (!((((((((((G_impl_within pb1_1 (0 : Int) (2 : Int)) && (G_impl_within pb1_1_2 (0 : Int) (1000 : Int))) && (G_impl_within pb1_1_3 (-1 : Int) (2 : Int))) && (ile pv3_1 (40 : Int))) && (ile ev4_1 pb1_1_2)) && (G_impl_within pb1_1_5 (0 : Int) (2 : Int))) && ((ieq pb1_1_5 (0 : Int)) || (ile (1 : Int) pb1_1_2))) && (G_impl_within pb1_1_6 (0 : Int) (7 : Int))) && (G_impl_within pb1_1_7 (0 : Int) pv3_1)) && (G_impl_areWithin N pb1_1_8 jv7 (1 : Int) (w64 (pv3_1 + (1 : Int))))))) <|
  some ((((((((((((G_impl_within pb1_1 (0 : Int) (2 : Int)) && (G_impl_within pb1_1_2 (0 : Int) (1000 : Int))) && (G_impl_within pb1_1_3 (-1 : Int) (2 : Int))) && (ile pv3_1 (40 : Int))) && (ile ev4_1 pb1_1_2)) && (G_impl_within pb1_1_5 (0 : Int) (2 : Int))) && ((ieq pb1_1_5 (0 : Int)) || (ile (1 : Int) pb1_1_2))) && (G_impl_within pb1_1_6 (0 : Int) (7 : Int))) && (G_impl_within pb1_1_7 (0 : Int) pv3_1)) && (G_impl_areWithin N pb1_1_8 jv7 (1 : Int) (w64 (pv3_1 + (1 : Int))))) && (G_impl_areWithin N pb1_1_9 jv7 (0 : Int) pv3_1)) && ((!pb1_1_10) || (((ieq pb1_1_5 (0 : Int)) && (ieq pb1_1_7 (0 : Int))) && (ieq pb1_1_6 (0 : Int)))))
theorem impl_isKeeper_j1_run (N : Nat) (pv3_1 : Int) (ev4_1 : Int) (jv7 : Int) (pb1_1 : Int) (pb1_1_2 : Int) (pb1_1_3 : Int) (pb1_1_4 : List DItem) (pb1_1_5 : Int) (pb1_1_6 : Int) (pb1_1_7 : Int) (pb1_1_8 : List Int) (pb1_1_9 : List Int) (pb1_1_10 : Bool) :
    atJ ((seqK' (fun fr H K => rcode (O_impl_isKeeper N) τ_impl_isKeeper N fin_impl_isKeeper c_impl_isKeeper_2 fr H K) (finK R_impl_isKeeper [.t 2])) none) [(1, .p 1 0 0), (3, .n .i64 pv3_1), (4, .n .i64 ev4_1), (7, .n .i64 jv7)] ⟨2, [(1, .un 10 [[.n .i64 pb1_1, .n .i64 pb1_1_2, .n .i64 pb1_1_3, .q tItem pb1_1_4, .n .i64 pb1_1_5, .n .i64 pb1_1_6, .n .i64 pb1_1_7, .q (.i .i64) pb1_1_8, .q (.i .i64) pb1_1_9, .b pb1_1_10]])]⟩ = impl_isKeeper_j1 N pv3_1 ev4_1 jv7 pb1_1 pb1_1_2 pb1_1_3 pb1_1_4 pb1_1_5 pb1_1_6 pb1_1_7 pb1_1_8 pb1_1_9 pb1_1_10 := (atJ_at _ _ _).trans (by kernel_rfl)
def impl_isKeeper_x1_0R (N : Nat) (impl_isKeeper_j1 : Int → Int → Int → Int → Int → Int → List DItem → Int → Int → Int → List Int → List Int → Bool → Option Bool) (pv3_1 : Int) (ev4_1 : Int) (pb1_1 : Int) (pb1_1_2 : Int) (pb1_1_3 : Int) (pb1_1_4 : List DItem) (pb1_1_5 : Int) (pb1_1_6 : Int) (pb1_1_7 : Int) (pb1_1_8 : List Int) (pb1_1_9 : List Int) (pb1_1_10 : Bool) : Option Bool :=
  bif (ieq pb1_1_5 (2 : Int)) then
    impl_isKeeper_j1 pv3_1 ev4_1 (3 : Int) pb1_1 pb1_1_2 pb1_1_3 pb1_1_4 pb1_1_5 pb1_1_6 pb1_1_7 pb1_1_8 pb1_1_9 pb1_1_10
  else
    impl_isKeeper_j1 pv3_1 ev4_1 (0 : Int) pb1_1 pb1_1_2 pb1_1_3 pb1_1_4 pb1_1_5 pb1_1_6 pb1_1_7 pb1_1_8 pb1_1_9 pb1_1_10
def impl_isKeeper_x1_0 (N : Nat) (pv3_1 : Int) (ev4_1 : Int) (pb1_1 : Int) (pb1_1_2 : Int) (pb1_1_3 : Int) (pb1_1_4 : List DItem) (pb1_1_5 : Int) (pb1_1_6 : Int) (pb1_1_7 : Int) (pb1_1_8 : List Int) (pb1_1_9 : List Int) (pb1_1_10 : Bool) : Option Bool := impl_isKeeper_x1_0R N (impl_isKeeper_j1 N) pv3_1 ev4_1 pb1_1 pb1_1_2 pb1_1_3 pb1_1_4 pb1_1_5 pb1_1_6 pb1_1_7 pb1_1_8 pb1_1_9 pb1_1_10
theorem impl_isKeeper_x1_0_raw (N : Nat) (pv3_1 : Int) (ev4_1 : Int) (pb1_1 : Int) (pb1_1_2 : Int) (pb1_1_3 : Int) (pb1_1_4 : List DItem) (pb1_1_5 : Int) (pb1_1_6 : Int) (pb1_1_7 : Int) (pb1_1_8 : List Int) (pb1_1_9 : List Int) (pb1_1_10 : Bool) :
    (blockK 0 (seqK' (fun fr H K => rcode (O_impl_isKeeper N) τ_impl_isKeeper N fin_impl_isKeeper c_impl_isKeeper_3 fr H K) (finK R_impl_isKeeper [.t 2]))) (some 0) [(1, .p 1 0 0), (3, .n .i64 pv3_1), (4, .n .i64 ev4_1)] ⟨2, [(1, .un 10 [[.n .i64 pb1_1, .n .i64 pb1_1_2, .n .i64 pb1_1_3, .q tItem pb1_1_4, .n .i64 pb1_1_5, .n .i64 pb1_1_6, .n .i64 pb1_1_7, .q (.i .i64) pb1_1_8, .q (.i .i64) pb1_1_9, .b pb1_1_10]])]⟩ = impl_isKeeper_x1_0R N (fun pv3_1 ev4_1 jv7 pb1_1 pb1_1_2 pb1_1_3 pb1_1_4 pb1_1_5 pb1_1_6 pb1_1_7 pb1_1_8 pb1_1_9 pb1_1_10 => atJ ((seqK' (fun fr H K => rcode (O_impl_isKeeper N) τ_impl_isKeeper N fin_impl_isKeeper c_impl_isKeeper_2 fr H K) (finK R_impl_isKeeper [.t 2])) none) [(1, .p 1 0 0), (3, .n .i64 pv3_1), (4, .n .i64 ev4_1), (7, .n .i64 jv7)] ⟨2, [(1, .un 10 [[.n .i64 pb1_1, .n .i64 pb1_1_2, .n .i64 pb1_1_3, .q tItem pb1_1_4, .n .i64 pb1_1_5, .n .i64 pb1_1_6, .n .i64 pb1_1_7, .q (.i .i64) pb1_1_8, .q (.i .i64) pb1_1_9, .b pb1_1_10]])]⟩) pv3_1 ev4_1 pb1_1 pb1_1_2 pb1_1_3 pb1_1_4 pb1_1_5 pb1_1_6 pb1_1_7 pb1_1_8 pb1_1_9 pb1_1_10 := by kernel_rfl
theorem impl_isKeeper_x1_0_run (N : Nat) (pv3_1 : Int) (ev4_1 : Int) (pb1_1 : Int) (pb1_1_2 : Int) (pb1_1_3 : Int) (pb1_1_4 : List DItem) (pb1_1_5 : Int) (pb1_1_6 : Int) (pb1_1_7 : Int) (pb1_1_8 : List Int) (pb1_1_9 : List Int) (pb1_1_10 : Bool) :
    (blockK 0 (seqK' (fun fr H K => rcode (O_impl_isKeeper N) τ_impl_isKeeper N fin_impl_isKeeper c_impl_isKeeper_3 fr H K) (finK R_impl_isKeeper [.t 2]))) (some 0) [(1, .p 1 0 0), (3, .n .i64 pv3_1), (4, .n .i64 ev4_1)] ⟨2, [(1, .un 10 [[.n .i64 pb1_1, .n .i64 pb1_1_2, .n .i64 pb1_1_3, .q tItem pb1_1_4, .n .i64 pb1_1_5, .n .i64 pb1_1_6, .n .i64 pb1_1_7, .q (.i .i64) pb1_1_8, .q (.i .i64) pb1_1_9, .b pb1_1_10]])]⟩ = impl_isKeeper_x1_0 N pv3_1 ev4_1 pb1_1 pb1_1_2 pb1_1_3 pb1_1_4 pb1_1_5 pb1_1_6 pb1_1_7 pb1_1_8 pb1_1_9 pb1_1_10 :=
  (impl_isKeeper_x1_0_raw N pv3_1 ev4_1 pb1_1 pb1_1_2 pb1_1_3 pb1_1_4 pb1_1_5 pb1_1_6 pb1_1_7 pb1_1_8 pb1_1_9 pb1_1_10).trans (congrArg (fun h => impl_isKeeper_x1_0R N h pv3_1 ev4_1 pb1_1 pb1_1_2 pb1_1_3 pb1_1_4 pb1_1_5 pb1_1_6 pb1_1_7 pb1_1_8 pb1_1_9 pb1_1_10) (funext fun pv3_1 => funext fun ev4_1 => funext fun jv7 => funext fun pb1_1 => funext fun pb1_1_2 => funext fun pb1_1_3 => funext fun pb1_1_4 => funext fun pb1_1_5 => funext fun pb1_1_6 => funext fun pb1_1_7 => funext fun pb1_1_8 => funext fun pb1_1_9 => funext fun pb1_1_10 => impl_isKeeper_j1_run N pv3_1 ev4_1 jv7 pb1_1 pb1_1_2 pb1_1_3 pb1_1_4 pb1_1_5 pb1_1_6 pb1_1_7 pb1_1_8 pb1_1_9 pb1_1_10))
def impl_isKeeper_l1 (k0_0 : Int → Option Bool) (N : Nat) (pv3_1 : Int) (pv12_1 : List DItem) (pv13_1 : Int) (pb1_1 : Int) (pb1_1_2 : Int) (pb1_1_3 : Int) (pb1_1_4 : List DItem) (pb1_1_5 : Int) (pb1_1_6 : Int) (pb1_1_7 : Int) (pb1_1_8 : List Int) (pb1_1_9 : List Int) (pb1_1_10 : Bool) : Nat → Int → Int → Option Bool
  | 0, _, _ => none
  | n + 1, v4_1, v14_1 => impl_isKeeper_l1s (impl_isKeeper_l1 k0_0 N pv3_1 pv12_1 pv13_1 pb1_1 pb1_1_2 pb1_1_3 pb1_1_4 pb1_1_5 pb1_1_6 pb1_1_7 pb1_1_8 pb1_1_9 pb1_1_10 n) k0_0 N pv3_1 v4_1 pv12_1 pv13_1 v14_1 pb1_1 pb1_1_2 pb1_1_3 pb1_1_4 pb1_1_5 pb1_1_6 pb1_1_7 pb1_1_8 pb1_1_9 pb1_1_10
def impl_isKeeper_h1 (N : Nat) (pv3_1 : Int) (v4_1 : Int) (pv12_1 : List DItem) (pv13_1 : Int) (v14_1 : Int) (pb1_1 : Int) (pb1_1_2 : Int) (pb1_1_3 : Int) (pb1_1_4 : List DItem) (pb1_1_5 : Int) (pb1_1_6 : Int) (pb1_1_7 : Int) (pb1_1_8 : List Int) (pb1_1_9 : List Int) (pb1_1_10 : Bool) : Option Bool :=
  impl_isKeeper_l1 (fun ev4_1 => impl_isKeeper_x1_0 N pv3_1 ev4_1 pb1_1 pb1_1_2 pb1_1_3 pb1_1_4 pb1_1_5 pb1_1_6 pb1_1_7 pb1_1_8 pb1_1_9 pb1_1_10) N pv3_1 pv12_1 pv13_1 pb1_1 pb1_1_2 pb1_1_3 pb1_1_4 pb1_1_5 pb1_1_6 pb1_1_7 pb1_1_8 pb1_1_9 pb1_1_10 N v4_1 v14_1
theorem impl_isKeeper_l1_run (N : Nat)  (K : Option Nat → Fr2 → Hp → Option Bool) (pv3_1 : Int) (pv12_1 : List DItem) (pv13_1 : Int) (pb1_1 : Int) (pb1_1_2 : Int) (pb1_1_3 : Int) (pb1_1_4 : List DItem) (pb1_1_5 : Int) (pb1_1_6 : Int) (pb1_1_7 : Int) (pb1_1_8 : List Int) (pb1_1_9 : List Int) (pb1_1_10 : Bool) : ∀ (n : Nat) (v4_1 : Int) (v14_1 : Int),
    rloop (fun fr H K => rcode (O_impl_isKeeper N) τ_impl_isKeeper N fin_impl_isKeeper c_impl_isKeeper_1 fr H K) [1, 3, 4, 12, 13, 14] [] [1, 3, 4] K n [(1, .p 1 0 0), (3, .n .i64 pv3_1), (4, .n .i64 v4_1), (12, .q tItem pv12_1), (13, .n .i64 pv13_1), (14, .n .i64 v14_1)] ⟨2, [(1, .un 10 [[.n .i64 pb1_1, .n .i64 pb1_1_2, .n .i64 pb1_1_3, .q tItem pb1_1_4, .n .i64 pb1_1_5, .n .i64 pb1_1_6, .n .i64 pb1_1_7, .q (.i .i64) pb1_1_8, .q (.i .i64) pb1_1_9, .b pb1_1_10]])]⟩ = impl_isKeeper_l1 (fun ev4_1 => K (some 0) [(1, .p 1 0 0), (3, .n .i64 pv3_1), (4, .n .i64 ev4_1)] ⟨2, [(1, .un 10 [[.n .i64 pb1_1, .n .i64 pb1_1_2, .n .i64 pb1_1_3, .q tItem pb1_1_4, .n .i64 pb1_1_5, .n .i64 pb1_1_6, .n .i64 pb1_1_7, .q (.i .i64) pb1_1_8, .q (.i .i64) pb1_1_9, .b pb1_1_10]])]⟩) N pv3_1 pv12_1 pv13_1 pb1_1 pb1_1_2 pb1_1_3 pb1_1_4 pb1_1_5 pb1_1_6 pb1_1_7 pb1_1_8 pb1_1_9 pb1_1_10 n v4_1 v14_1 := by
  intro n
  induction n with
  | zero => intro v4_1 v14_1; kernel_rfl
  | succ n ih => intro v4_1 v14_1; exact (impl_isKeeper_l1s_run N (rloop (fun fr H K => rcode (O_impl_isKeeper N) τ_impl_isKeeper N fin_impl_isKeeper c_impl_isKeeper_1 fr H K) [1, 3, 4, 12, 13, 14] [] [1, 3, 4] K n) K pv3_1 v4_1 pv12_1 pv13_1 v14_1 pb1_1 pb1_1_2 pb1_1_3 pb1_1_4 pb1_1_5 pb1_1_6 pb1_1_7 pb1_1_8 pb1_1_9 pb1_1_10).trans (congrArg (fun r => impl_isKeeper_l1s r (fun ev4_1 => K (some 0) [(1, .p 1 0 0), (3, .n .i64 pv3_1), (4, .n .i64 ev4_1)] ⟨2, [(1, .un 10 [[.n .i64 pb1_1, .n .i64 pb1_1_2, .n .i64 pb1_1_3, .q tItem pb1_1_4, .n .i64 pb1_1_5, .n .i64 pb1_1_6, .n .i64 pb1_1_7, .q (.i .i64) pb1_1_8, .q (.i .i64) pb1_1_9, .b pb1_1_10]])]⟩) N pv3_1 v4_1 pv12_1 pv13_1 v14_1 pb1_1 pb1_1_2 pb1_1_3 pb1_1_4 pb1_1_5 pb1_1_6 pb1_1_7 pb1_1_8 pb1_1_9 pb1_1_10) (funext fun v4_1 => funext fun v14_1 => ih v4_1 v14_1))
theorem impl_isKeeper_h1_run (N : Nat) (pv3_1 : Int) (v4_1 : Int) (pv12_1 : List DItem) (pv13_1 : Int) (v14_1 : Int) (pb1_1 : Int) (pb1_1_2 : Int) (pb1_1_3 : Int) (pb1_1_4 : List DItem) (pb1_1_5 : Int) (pb1_1_6 : Int) (pb1_1_7 : Int) (pb1_1_8 : List Int) (pb1_1_9 : List Int) (pb1_1_10 : Bool) : rloop (fun fr H K => rcode (O_impl_isKeeper N) τ_impl_isKeeper N fin_impl_isKeeper c_impl_isKeeper_1 fr H K) [1, 3, 4, 12, 13, 14] [] [1, 3, 4] (blockK 0 (seqK' (fun fr H K => rcode (O_impl_isKeeper N) τ_impl_isKeeper N fin_impl_isKeeper c_impl_isKeeper_3 fr H K) (finK R_impl_isKeeper [.t 2]))) N [(1, .p 1 0 0), (3, .n .i64 pv3_1), (4, .n .i64 v4_1), (12, .q tItem pv12_1), (13, .n .i64 pv13_1), (14, .n .i64 v14_1)] ⟨2, [(1, .un 10 [[.n .i64 pb1_1, .n .i64 pb1_1_2, .n .i64 pb1_1_3, .q tItem pb1_1_4, .n .i64 pb1_1_5, .n .i64 pb1_1_6, .n .i64 pb1_1_7, .q (.i .i64) pb1_1_8, .q (.i .i64) pb1_1_9, .b pb1_1_10]])]⟩ = impl_isKeeper_h1 N pv3_1 v4_1 pv12_1 pv13_1 v14_1 pb1_1 pb1_1_2 pb1_1_3 pb1_1_4 pb1_1_5 pb1_1_6 pb1_1_7 pb1_1_8 pb1_1_9 pb1_1_10 :=
  ((impl_isKeeper_l1_run N (blockK 0 (seqK' (fun fr H K => rcode (O_impl_isKeeper N) τ_impl_isKeeper N fin_impl_isKeeper c_impl_isKeeper_3 fr H K) (finK R_impl_isKeeper [.t 2]))) pv3_1 pv12_1 pv13_1 pb1_1 pb1_1_2 pb1_1_3 pb1_1_4 pb1_1_5 pb1_1_6 pb1_1_7 pb1_1_8 pb1_1_9 pb1_1_10 N v4_1 v14_1)).trans (congrArg (fun h => impl_isKeeper_l1 h N pv3_1 pv12_1 pv13_1 pb1_1 pb1_1_2 pb1_1_3 pb1_1_4 pb1_1_5 pb1_1_6 pb1_1_7 pb1_1_8 pb1_1_9 pb1_1_10 N v4_1 v14_1) (funext fun ev4_1 => impl_isKeeper_x1_0_run N pv3_1 ev4_1 pb1_1 pb1_1_2 pb1_1_3 pb1_1_4 pb1_1_5 pb1_1_6 pb1_1_7 pb1_1_8 pb1_1_9 pb1_1_10))
def F_impl_isKeeperR (N : Nat) (impl_isKeeper_h1 : Int → Int → List DItem → Int → Int → Int → Int → Int → List DItem → Int → Int → Int → List Int → List Int → Bool → Option Bool) (a0 : DKeeper) : Option Bool :=
  impl_isKeeper_h1 (G_impl_size_Item a0.2.2.2.1) (0 : Int) a0.2.2.2.1 ((a0.2.2.2.1.length) : Int) (0 : Int) a0.1 a0.2.1 a0.2.2.1 a0.2.2.2.1 a0.2.2.2.2.1 a0.2.2.2.2.2.1 a0.2.2.2.2.2.2.1 a0.2.2.2.2.2.2.2.1 a0.2.2.2.2.2.2.2.2.1 a0.2.2.2.2.2.2.2.2.2
def F_impl_isKeeper (N : Nat) (a0 : DKeeper) : Option Bool := F_impl_isKeeperR N (impl_isKeeper_h1 N) a0
theorem F_impl_isKeeper_raw (N : Nat) (a0 : DKeeper) :
    runF (O_impl_isKeeper N) N B_impl_isKeeper R_impl_isKeeper (vals T_impl_isKeeper a0) = F_impl_isKeeperR N (fun pv3_1 v4_1 pv12_1 pv13_1 v14_1 pb1_1 pb1_1_2 pb1_1_3 pb1_1_4 pb1_1_5 pb1_1_6 pb1_1_7 pb1_1_8 pb1_1_9 pb1_1_10 => rloop (fun fr H K => rcode (O_impl_isKeeper N) τ_impl_isKeeper N fin_impl_isKeeper c_impl_isKeeper_1 fr H K) [1, 3, 4, 12, 13, 14] [] [1, 3, 4] (blockK 0 (seqK' (fun fr H K => rcode (O_impl_isKeeper N) τ_impl_isKeeper N fin_impl_isKeeper c_impl_isKeeper_3 fr H K) (finK R_impl_isKeeper [.t 2]))) N [(1, .p 1 0 0), (3, .n .i64 pv3_1), (4, .n .i64 v4_1), (12, .q tItem pv12_1), (13, .n .i64 pv13_1), (14, .n .i64 v14_1)] ⟨2, [(1, .un 10 [[.n .i64 pb1_1, .n .i64 pb1_1_2, .n .i64 pb1_1_3, .q tItem pb1_1_4, .n .i64 pb1_1_5, .n .i64 pb1_1_6, .n .i64 pb1_1_7, .q (.i .i64) pb1_1_8, .q (.i .i64) pb1_1_9, .b pb1_1_10]])]⟩) a0 := by kernel_rfl
theorem F_impl_isKeeper_run (N : Nat) (a0 : DKeeper) :
    runF (O_impl_isKeeper N) N B_impl_isKeeper R_impl_isKeeper (vals T_impl_isKeeper a0) = F_impl_isKeeper N a0 :=
  (F_impl_isKeeper_raw N a0).trans (congrArg (fun h => F_impl_isKeeperR N h a0) (funext fun pv3_1 => funext fun v4_1 => funext fun pv12_1 => funext fun pv13_1 => funext fun v14_1 => funext fun pb1_1 => funext fun pb1_1_2 => funext fun pb1_1_3 => funext fun pb1_1_4 => funext fun pb1_1_5 => funext fun pb1_1_6 => funext fun pb1_1_7 => funext fun pb1_1_8 => funext fun pb1_1_9 => funext fun pb1_1_10 => impl_isKeeper_h1_run N pv3_1 v4_1 pv12_1 pv13_1 v14_1 pb1_1 pb1_1_2 pb1_1_3 pb1_1_4 pb1_1_5 pb1_1_6 pb1_1_7 pb1_1_8 pb1_1_9 pb1_1_10))
def P_impl_isKeeper (N : Nat) (a0 : DKeeper) : Bool := lock (F_impl_isKeeper N a0).isSome
def G_impl_isKeeper (N : Nat) (a0 : DKeeper) : Bool := lock ((F_impl_isKeeper N a0).getD false)
theorem FG_impl_isKeeper {N : Nat} (a0 : DKeeper) (h : P_impl_isKeeper N a0 = true) : F_impl_isKeeper N a0 = some (G_impl_isKeeper N a0) := by unfold P_impl_isKeeper at h; unfold G_impl_isKeeper; rw [lock_eq] at h ⊢; exact some_of_isSome h
theorem PG_impl_isKeeper {N : Nat} {a0 : DKeeper} {v : Bool} (h : F_impl_isKeeper N a0 = some v) : P_impl_isKeeper N a0 = true ∧ G_impl_isKeeper N a0 = v := by unfold P_impl_isKeeper G_impl_isKeeper; rw [h, lock_eq, lock_eq]; exact ⟨rfl, rfl⟩
def o_impl_isKeeper (N : Nat) : List V → Bool × V := mkO T_impl_isKeeper R_impl_isKeeper (fun (x : DKeeper) => P_impl_isKeeper N x) (fun (x : DKeeper) => G_impl_isKeeper N x)
theorem impl_isKeeper_entry (N : Nat) : Entry Try.prog 67 (o_impl_isKeeper N) := Entry.of fun (x : DKeeper) h =>
  Pf.of_run hm Try.func67 okFn_impl_isKeeper B_impl_isKeeper_ok B_impl_isKeeper_wf (O_impl_isKeeper_ok N) rfl ((F_impl_isKeeper_run N x).trans (FG_impl_isKeeper x h))
/-! loop.example/g00526/impl.isLetter$1 -/
abbrev T_impl_isLetter_c1 : List GT := [tItem]
abbrev R_impl_isLetter_c1 : List GT := [.b]
def fin_impl_isLetter_c1 : Fr2 → Hp → Option Bool := finF R_impl_isLetter_c1 [.t 2]
def O_impl_isLetter_c1 (N : Nat) : Orac := orc [(101, o_impl_isItem N)] []
theorem O_impl_isLetter_c1_ok (N : Nat) : OrcOk Try.prog (O_impl_isLetter_c1 N) := OrcOk.of ⟨impl_isItem_entry N, trivial⟩ trivial
def τ_impl_isLetter_c1 : Nat → Option GT := fun _ => none
def B_impl_isLetter_c1 : F2 := ⟨6, 1, [.t 2], τ_impl_isLetter_c1,
    .seq (.reg .reg [.op (some 1) (.box (.t 0)),
      .op (some 2) (.mov (.c (.b false)))])
    (.seq (.reg .reg [.op (some 3) (.load 2 true (.t 1)),
      .op (some 4) (.call (.c (.f 101 [])) [.t 3]),
      .op (some 5) (.un .not (.t 4)),
      .op (some 2) (.mov (.t 5))])
    (.ret))⟩
theorem B_impl_isLetter_c1_ok : checkFn Try.prog Try.f118 B_impl_isLetter_c1.toA = true := by kernel_rfl
theorem B_impl_isLetter_c1_wf : B_impl_isLetter_c1.body.wf = true := by kernel_rfl
theorem okFn_impl_isLetter_c1 : okFn Try.prog 118 = true := by kernel_rfl
def F_impl_isLetter_c1 (N : Nat) (a0 : DItem) : Option Bool :=
  chk (P_impl_isItem N a0) <|
  some (!(G_impl_isItem N a0))
theorem F_impl_isLetter_c1_run (N : Nat) (a0 : DItem) :
    runF (O_impl_isLetter_c1 N) N B_impl_isLetter_c1 R_impl_isLetter_c1 (vals T_impl_isLetter_c1 a0) = F_impl_isLetter_c1 N a0 := by kernel_rfl
def P_impl_isLetter_c1 (N : Nat) (a0 : DItem) : Bool := lock (F_impl_isLetter_c1 N a0).isSome
def G_impl_isLetter_c1 (N : Nat) (a0 : DItem) : Bool := lock ((F_impl_isLetter_c1 N a0).getD false)
theorem FG_impl_isLetter_c1 {N : Nat} (a0 : DItem) (h : P_impl_isLetter_c1 N a0 = true) : F_impl_isLetter_c1 N a0 = some (G_impl_isLetter_c1 N a0) := by unfold P_impl_isLetter_c1 at h; unfold G_impl_isLetter_c1; rw [lock_eq] at h ⊢; exact some_of_isSome h
theorem PG_impl_isLetter_c1 {N : Nat} {a0 : DItem} {v : Bool} (h : F_impl_isLetter_c1 N a0 = some v) : P_impl_isLetter_c1 N a0 = true ∧ G_impl_isLetter_c1 N a0 = v := by unfold P_impl_isLetter_c1 G_impl_isLetter_c1; rw [h, lock_eq, lock_eq]; exact ⟨rfl, rfl⟩
def o_impl_isLetter_c1 (N : Nat) : List V → Bool × V := mkO T_impl_isLetter_c1 R_impl_isLetter_c1 (fun (x : DItem) => P_impl_isLetter_c1 N x) (fun (x : DItem) => G_impl_isLetter_c1 N x)
theorem impl_isLetter_c1_entry (N : Nat) : Entry Try.prog 118 (o_impl_isLetter_c1 N) := Entry.of fun (x : DItem) h =>
  Pf.of_run hm Try.func118 okFn_impl_isLetter_c1 B_impl_isLetter_c1_ok B_impl_isLetter_c1_wf (O_impl_isLetter_c1_ok N) rfl ((F_impl_isLetter_c1_run N x).trans (FG_impl_isLetter_c1 x h))
/-! slices.IndexFunc[[]loop.example/g00526/impl.Item,loop.example/g00526/impl.Item] -/
abbrev T_slices_IndexFunc_Item_impl_isLetter_c1 : List GT := [(.sl tItem), (.fn 118 [])]
abbrev R_slices_IndexFunc_Item_impl_isLetter_c1 : List GT := [(.i .i64)]
def fin_slices_IndexFunc_Item_impl_isLetter_c1 : Fr2 → Hp → Option Int := finF R_slices_IndexFunc_Item_impl_isLetter_c1 [.t 4]
def O_slices_IndexFunc_Item_impl_isLetter_c1 (N : Nat) : Orac := orc [(118, o_impl_isLetter_c1 N)] []
theorem O_slices_IndexFunc_Item_impl_isLetter_c1_ok (N : Nat) : OrcOk Try.prog (O_slices_IndexFunc_Item_impl_isLetter_c1 N) := OrcOk.of ⟨impl_isLetter_c1_entry N, trivial⟩ trivial
def c_slices_IndexFunc_Item_impl_isLetter_c1_1 : C2 :=
    .seq (.reg .reg [.op (some 9) (.bin .lss (.t 8) (.t 7))])
    (.seq (.cond (.t 9) (.skip)
    (.exit 0))
    (.seq (.block 1 (.seq (.reg .reg [.op (some 10) (.mov (.t 8)),
      .op (some 5) (.mov (.t 10))])
    (.seq (.reg .reg [.op (some 11) (.mov (.t 1)),
      .op (some 12) (.mov (.t 0)),
      .op (some 13) (.mov (.t 5)),
      .op (some 14) (.iad 2 (.t 12) (.t 13)),
      .op (some 15) (.load 2 true (.t 14)),
      .op (some 16) (.call (.t 11) [.t 15])])
    (.cond (.t 16) (.seq (.reg .reg [.op (some 17) (.mov (.t 5)),
      .op (some 4) (.mov (.t 17))])
    (.ret))
    (.skip)))))
    (.reg .reg [.op (some 18) (.bin .add (.t 8) (.c (.n .i64 1))),
      .op (some 8) (.mov (.t 18))])))
def c_slices_IndexFunc_Item_impl_isLetter_c1_2 : C2 :=
    .seq (.reg .reg [.op (some 4) (.mov (.c (.n .i64 (-1))))])
    (.ret)
def τ_slices_IndexFunc_Item_impl_isLetter_c1 : Nat → Option GT := fun _ => none
def B_slices_IndexFunc_Item_impl_isLetter_c1 : F2 := ⟨19, 2, [.t 4], τ_slices_IndexFunc_Item_impl_isLetter_c1,
    .seq (.reg .reg [.op (some 4) (.mov (.c (.n .i64 0)))])
    (.seq (.seq (.reg .reg [.op (some 6) (.mov (.t 0)),
      .op (some 7) (.len false (.t 6)),
      .op (some 8) (.mov (.c (.n .i64 0)))])
    (.block 0 (.loop [0, 1, 7, 8] [] [] c_slices_IndexFunc_Item_impl_isLetter_c1_1)))
    (c_slices_IndexFunc_Item_impl_isLetter_c1_2))⟩
theorem B_slices_IndexFunc_Item_impl_isLetter_c1_ok : checkFn Try.prog Try.f129 B_slices_IndexFunc_Item_impl_isLetter_c1.toA = true := by kernel_rfl
theorem B_slices_IndexFunc_Item_impl_isLetter_c1_wf : B_slices_IndexFunc_Item_impl_isLetter_c1.body.wf = true := by kernel_rfl
theorem okFn_slices_IndexFunc_Item_impl_isLetter_c1 : okFn Try.prog 129 = true := by kernel_rfl
def slices_IndexFunc_Item_impl_isLetter_c1_l1s (r0 : Int → Option Int) (k0_0 : Option Int) (N : Nat) (a0 : List DItem) (pv7_1 : Int) (v8_1 : Int) : Option Int :=
  bif (ilt v8_1 pv7_1) then
    let x1 : DItem := (a0.getD (v8_1.toNat) dItem)
    chk (inb v8_1 (a0.length)) <|
    chk (P_impl_isLetter_c1 N x1) <|
    bif (G_impl_isLetter_c1 N x1) then
      some v8_1
    else
      r0 (w64 (v8_1 + (1 : Int)))
  else
    k0_0
theorem slices_IndexFunc_Item_impl_isLetter_c1_l1s_run (N : Nat) (C0 : Fr2 → Hp → Option Int) (K0 : Option Nat → Fr2 → Hp → Option Int) (a0 : List DItem) (pv7_1 : Int) (v8_1 : Int) :
    rcode (O_slices_IndexFunc_Item_impl_isLetter_c1 N) τ_slices_IndexFunc_Item_impl_isLetter_c1 N fin_slices_IndexFunc_Item_impl_isLetter_c1 c_slices_IndexFunc_Item_impl_isLetter_c1_1 [(0, .q tItem a0), (1, .f 118 []), (7, .n .i64 pv7_1), (8, .n .i64 v8_1)] ⟨1, []⟩ (roundK [0, 1, 7, 8] [] [] C0 K0) = slices_IndexFunc_Item_impl_isLetter_c1_l1s (fun v8_1 => C0 [(0, .q tItem a0), (1, .f 118 []), (7, .n .i64 pv7_1), (8, .n .i64 v8_1)] ⟨1, []⟩) (K0 (some 0) [] ⟨1, []⟩) N a0 pv7_1 v8_1 := by kernel_rfl
def slices_IndexFunc_Item_impl_isLetter_c1_x1_0 (N : Nat) : Option Int :=
  some (-1 : Int)
theorem slices_IndexFunc_Item_impl_isLetter_c1_x1_0_run (N : Nat)  :
    (blockK 0 (seqK' (fun fr H K => rcode (O_slices_IndexFunc_Item_impl_isLetter_c1 N) τ_slices_IndexFunc_Item_impl_isLetter_c1 N fin_slices_IndexFunc_Item_impl_isLetter_c1 c_slices_IndexFunc_Item_impl_isLetter_c1_2 fr H K) (finK R_slices_IndexFunc_Item_impl_isLetter_c1 [.t 4]))) (some 0) [] ⟨1, []⟩ = slices_IndexFunc_Item_impl_isLetter_c1_x1_0 N := by kernel_rfl
def slices_IndexFunc_Item_impl_isLetter_c1_l1 (k0_0 : Option Int) (N : Nat) (a0 : List DItem) (pv7_1 : Int) : Nat → Int → Option Int
  | 0, _ => none
  | n + 1, v8_1 => slices_IndexFunc_Item_impl_isLetter_c1_l1s (slices_IndexFunc_Item_impl_isLetter_c1_l1 k0_0 N a0 pv7_1 n) k0_0 N a0 pv7_1 v8_1
def slices_IndexFunc_Item_impl_isLetter_c1_h1 (N : Nat) (a0 : List DItem) (pv7_1 : Int) (v8_1 : Int) : Option Int :=
  slices_IndexFunc_Item_impl_isLetter_c1_l1 (slices_IndexFunc_Item_impl_isLetter_c1_x1_0 N) N a0 pv7_1 N v8_1
theorem slices_IndexFunc_Item_impl_isLetter_c1_l1_run (N : Nat)  (K : Option Nat → Fr2 → Hp → Option Int) (a0 : List DItem) (pv7_1 : Int) : ∀ (n : Nat) (v8_1 : Int),
    rloop (fun fr H K => rcode (O_slices_IndexFunc_Item_impl_isLetter_c1 N) τ_slices_IndexFunc_Item_impl_isLetter_c1 N fin_slices_IndexFunc_Item_impl_isLetter_c1 c_slices_IndexFunc_Item_impl_isLetter_c1_1 fr H K) [0, 1, 7, 8] [] [] K n [(0, .q tItem a0), (1, .f 118 []), (7, .n .i64 pv7_1), (8, .n .i64 v8_1)] ⟨1, []⟩ = slices_IndexFunc_Item_impl_isLetter_c1_l1 (K (some 0) [] ⟨1, []⟩) N a0 pv7_1 n v8_1 := by
  intro n
  induction n with
  | zero => intro v8_1; kernel_rfl
  | succ n ih => intro v8_1; exact (slices_IndexFunc_Item_impl_isLetter_c1_l1s_run N (rloop (fun fr H K => rcode (O_slices_IndexFunc_Item_impl_isLetter_c1 N) τ_slices_IndexFunc_Item_impl_isLetter_c1 N fin_slices_IndexFunc_Item_impl_isLetter_c1 c_slices_IndexFunc_Item_impl_isLetter_c1_1 fr H K) [0, 1, 7, 8] [] [] K n) K a0 pv7_1 v8_1).trans (congrArg (fun r => slices_IndexFunc_Item_impl_isLetter_c1_l1s r (K (some 0) [] ⟨1, []⟩) N a0 pv7_1 v8_1) (funext fun v8_1 => ih v8_1))
theorem slices_IndexFunc_Item_impl_isLetter_c1_h1_run (N : Nat) (a0 : List DItem) (pv7_1 : Int) (v8_1 : Int) : rloop (fun fr H K => rcode (O_slices_IndexFunc_Item_impl_isLetter_c1 N) τ_slices_IndexFunc_Item_impl_isLetter_c1 N fin_slices_IndexFunc_Item_impl_isLetter_c1 c_slices_IndexFunc_Item_impl_isLetter_c1_1 fr H K) [0, 1, 7, 8] [] [] (blockK 0 (seqK' (fun fr H K => rcode (O_slices_IndexFunc_Item_impl_isLetter_c1 N) τ_slices_IndexFunc_Item_impl_isLetter_c1 N fin_slices_IndexFunc_Item_impl_isLetter_c1 c_slices_IndexFunc_Item_impl_isLetter_c1_2 fr H K) (finK R_slices_IndexFunc_Item_impl_isLetter_c1 [.t 4]))) N [(0, .q tItem a0), (1, .f 118 []), (7, .n .i64 pv7_1), (8, .n .i64 v8_1)] ⟨1, []⟩ = slices_IndexFunc_Item_impl_isLetter_c1_h1 N a0 pv7_1 v8_1 :=
  ((slices_IndexFunc_Item_impl_isLetter_c1_l1_run N (blockK 0 (seqK' (fun fr H K => rcode (O_slices_IndexFunc_Item_impl_isLetter_c1 N) τ_slices_IndexFunc_Item_impl_isLetter_c1 N fin_slices_IndexFunc_Item_impl_isLetter_c1 c_slices_IndexFunc_Item_impl_isLetter_c1_2 fr H K) (finK R_slices_IndexFunc_Item_impl_isLetter_c1 [.t 4]))) a0 pv7_1 N v8_1)).trans (congrArg (fun h => slices_IndexFunc_Item_impl_isLetter_c1_l1 h N a0 pv7_1 N v8_1) (slices_IndexFunc_Item_impl_isLetter_c1_x1_0_run N ))
def F_slices_IndexFunc_Item_impl_isLetter_c1R (N : Nat) (slices_IndexFunc_Item_impl_isLetter_c1_h1 : List DItem → Int → Int → Option Int) (a0 : List DItem) (a1 : Unit) : Option Int :=
  slices_IndexFunc_Item_impl_isLetter_c1_h1 a0 ((a0.length) : Int) (0 : Int)
def F_slices_IndexFunc_Item_impl_isLetter_c1 (N : Nat) (a0 : List DItem) (a1 : Unit) : Option Int := F_slices_IndexFunc_Item_impl_isLetter_c1R N (slices_IndexFunc_Item_impl_isLetter_c1_h1 N) a0 a1
theorem F_slices_IndexFunc_Item_impl_isLetter_c1_raw (N : Nat) (a0 : List DItem) (a1 : Unit) :
    runF (O_slices_IndexFunc_Item_impl_isLetter_c1 N) N B_slices_IndexFunc_Item_impl_isLetter_c1 R_slices_IndexFunc_Item_impl_isLetter_c1 (vals T_slices_IndexFunc_Item_impl_isLetter_c1 (a0, a1)) = F_slices_IndexFunc_Item_impl_isLetter_c1R N (fun a0 pv7_1 v8_1 => rloop (fun fr H K => rcode (O_slices_IndexFunc_Item_impl_isLetter_c1 N) τ_slices_IndexFunc_Item_impl_isLetter_c1 N fin_slices_IndexFunc_Item_impl_isLetter_c1 c_slices_IndexFunc_Item_impl_isLetter_c1_1 fr H K) [0, 1, 7, 8] [] [] (blockK 0 (seqK' (fun fr H K => rcode (O_slices_IndexFunc_Item_impl_isLetter_c1 N) τ_slices_IndexFunc_Item_impl_isLetter_c1 N fin_slices_IndexFunc_Item_impl_isLetter_c1 c_slices_IndexFunc_Item_impl_isLetter_c1_2 fr H K) (finK R_slices_IndexFunc_Item_impl_isLetter_c1 [.t 4]))) N [(0, .q tItem a0), (1, .f 118 []), (7, .n .i64 pv7_1), (8, .n .i64 v8_1)] ⟨1, []⟩) a0 a1 := by kernel_rfl
theorem F_slices_IndexFunc_Item_impl_isLetter_c1_run (N : Nat) (a0 : List DItem) (a1 : Unit) :
    runF (O_slices_IndexFunc_Item_impl_isLetter_c1 N) N B_slices_IndexFunc_Item_impl_isLetter_c1 R_slices_IndexFunc_Item_impl_isLetter_c1 (vals T_slices_IndexFunc_Item_impl_isLetter_c1 (a0, a1)) = F_slices_IndexFunc_Item_impl_isLetter_c1 N a0 a1 :=
  (F_slices_IndexFunc_Item_impl_isLetter_c1_raw N a0 a1).trans (congrArg (fun h => F_slices_IndexFunc_Item_impl_isLetter_c1R N h a0 a1) (funext fun a0 => funext fun pv7_1 => funext fun v8_1 => slices_IndexFunc_Item_impl_isLetter_c1_h1_run N a0 pv7_1 v8_1))
def P_slices_IndexFunc_Item_impl_isLetter_c1 (N : Nat) (a0 : List DItem) (a1 : Unit) : Bool := lock (F_slices_IndexFunc_Item_impl_isLetter_c1 N a0 a1).isSome
def G_slices_IndexFunc_Item_impl_isLetter_c1 (N : Nat) (a0 : List DItem) (a1 : Unit) : Int := lock ((F_slices_IndexFunc_Item_impl_isLetter_c1 N a0 a1).getD (0 : Int))
theorem FG_slices_IndexFunc_Item_impl_isLetter_c1 {N : Nat} (a0 : List DItem) (a1 : Unit) (h : P_slices_IndexFunc_Item_impl_isLetter_c1 N a0 a1 = true) : F_slices_IndexFunc_Item_impl_isLetter_c1 N a0 a1 = some (G_slices_IndexFunc_Item_impl_isLetter_c1 N a0 a1) := by unfold P_slices_IndexFunc_Item_impl_isLetter_c1 at h; unfold G_slices_IndexFunc_Item_impl_isLetter_c1; rw [lock_eq] at h ⊢; exact some_of_isSome h
theorem PG_slices_IndexFunc_Item_impl_isLetter_c1 {N : Nat} {a0 : List DItem} {a1 : Unit} {v : Int} (h : F_slices_IndexFunc_Item_impl_isLetter_c1 N a0 a1 = some v) : P_slices_IndexFunc_Item_impl_isLetter_c1 N a0 a1 = true ∧ G_slices_IndexFunc_Item_impl_isLetter_c1 N a0 a1 = v := by unfold P_slices_IndexFunc_Item_impl_isLetter_c1 G_slices_IndexFunc_Item_impl_isLetter_c1; rw [h, lock_eq, lock_eq]; exact ⟨rfl, rfl⟩
def o_slices_IndexFunc_Item_impl_isLetter_c1 (N : Nat) : List V → Bool × V := mkO T_slices_IndexFunc_Item_impl_isLetter_c1 R_slices_IndexFunc_Item_impl_isLetter_c1 (fun (x : (List DItem × Unit)) => P_slices_IndexFunc_Item_impl_isLetter_c1 N x.1 x.2) (fun (x : (List DItem × Unit)) => G_slices_IndexFunc_Item_impl_isLetter_c1 N x.1 x.2)
theorem slices_IndexFunc_Item_impl_isLetter_c1_entry (N : Nat) : Entry Try.prog 129 (o_slices_IndexFunc_Item_impl_isLetter_c1 N) := Entry.of fun (x : (List DItem × Unit)) h =>
  Pf.of_run hm Try.func129 okFn_slices_IndexFunc_Item_impl_isLetter_c1 B_slices_IndexFunc_Item_impl_isLetter_c1_ok B_slices_IndexFunc_Item_impl_isLetter_c1_wf (O_slices_IndexFunc_Item_impl_isLetter_c1_ok N) rfl ((F_slices_IndexFunc_Item_impl_isLetter_c1_run N x.1 x.2).trans (FG_slices_IndexFunc_Item_impl_isLetter_c1 x.1 x.2 h))
/-! slices.ContainsFunc[[]loop.example/g00526/impl.Item,loop.example/g00526/impl.Item] -/
abbrev T_slices_ContainsFunc_Item_impl_isLetter_c1 : List GT := [(.sl tItem), (.fn 118 [])]
abbrev R_slices_ContainsFunc_Item_impl_isLetter_c1 : List GT := [.b]
def fin_slices_ContainsFunc_Item_impl_isLetter_c1 : Fr2 → Hp → Option Bool := finF R_slices_ContainsFunc_Item_impl_isLetter_c1 [.t 4]
def O_slices_ContainsFunc_Item_impl_isLetter_c1 (N : Nat) : Orac := orc [(129, o_slices_IndexFunc_Item_impl_isLetter_c1 N)] []
theorem O_slices_ContainsFunc_Item_impl_isLetter_c1_ok (N : Nat) : OrcOk Try.prog (O_slices_ContainsFunc_Item_impl_isLetter_c1 N) := OrcOk.of ⟨slices_IndexFunc_Item_impl_isLetter_c1_entry N, trivial⟩ trivial
def τ_slices_ContainsFunc_Item_impl_isLetter_c1 : Nat → Option GT := fun _ => none
def B_slices_ContainsFunc_Item_impl_isLetter_c1 : F2 := ⟨9, 2, [.t 4], τ_slices_ContainsFunc_Item_impl_isLetter_c1,
    .seq (.reg .reg [.op (some 4) (.mov (.c (.b false)))])
    (.seq (.reg .reg [.op (some 5) (.mov (.t 0)),
      .op (some 6) (.mov (.t 1)),
      .op (some 7) (.call (.c (.f 129 [])) [.t 5, .t 6]),
      .op (some 8) (.bin .geq (.t 7) (.c (.n .i64 0))),
      .op (some 4) (.mov (.t 8))])
    (.ret))⟩
theorem B_slices_ContainsFunc_Item_impl_isLetter_c1_ok : checkFn Try.prog Try.f117 B_slices_ContainsFunc_Item_impl_isLetter_c1.toA = true := by kernel_rfl
theorem B_slices_ContainsFunc_Item_impl_isLetter_c1_wf : B_slices_ContainsFunc_Item_impl_isLetter_c1.body.wf = true := by kernel_rfl
theorem okFn_slices_ContainsFunc_Item_impl_isLetter_c1 : okFn Try.prog 117 = true := by kernel_rfl
def F_slices_ContainsFunc_Item_impl_isLetter_c1 (N : Nat) (a0 : List DItem) (a1 : Unit) : Option Bool :=
  chk (P_slices_IndexFunc_Item_impl_isLetter_c1 N a0 ()) <|
  some (ile (0 : Int) (G_slices_IndexFunc_Item_impl_isLetter_c1 N a0 ()))
theorem F_slices_ContainsFunc_Item_impl_isLetter_c1_run (N : Nat) (a0 : List DItem) (a1 : Unit) :
    runF (O_slices_ContainsFunc_Item_impl_isLetter_c1 N) N B_slices_ContainsFunc_Item_impl_isLetter_c1 R_slices_ContainsFunc_Item_impl_isLetter_c1 (vals T_slices_ContainsFunc_Item_impl_isLetter_c1 (a0, a1)) = F_slices_ContainsFunc_Item_impl_isLetter_c1 N a0 a1 := by kernel_rfl
def P_slices_ContainsFunc_Item_impl_isLetter_c1 (N : Nat) (a0 : List DItem) (a1 : Unit) : Bool := lock (F_slices_ContainsFunc_Item_impl_isLetter_c1 N a0 a1).isSome
def G_slices_ContainsFunc_Item_impl_isLetter_c1 (N : Nat) (a0 : List DItem) (a1 : Unit) : Bool := lock ((F_slices_ContainsFunc_Item_impl_isLetter_c1 N a0 a1).getD false)
theorem FG_slices_ContainsFunc_Item_impl_isLetter_c1 {N : Nat} (a0 : List DItem) (a1 : Unit) (h : P_slices_ContainsFunc_Item_impl_isLetter_c1 N a0 a1 = true) : F_slices_ContainsFunc_Item_impl_isLetter_c1 N a0 a1 = some (G_slices_ContainsFunc_Item_impl_isLetter_c1 N a0 a1) := by unfold P_slices_ContainsFunc_Item_impl_isLetter_c1 at h; unfold G_slices_ContainsFunc_Item_impl_isLetter_c1; rw [lock_eq] at h ⊢; exact some_of_isSome h
theorem PG_slices_ContainsFunc_Item_impl_isLetter_c1 {N : Nat} {a0 : List DItem} {a1 : Unit} {v : Bool} (h : F_slices_ContainsFunc_Item_impl_isLetter_c1 N a0 a1 = some v) : P_slices_ContainsFunc_Item_impl_isLetter_c1 N a0 a1 = true ∧ G_slices_ContainsFunc_Item_impl_isLetter_c1 N a0 a1 = v := by unfold P_slices_ContainsFunc_Item_impl_isLetter_c1 G_slices_ContainsFunc_Item_impl_isLetter_c1; rw [h, lock_eq, lock_eq]; exact ⟨rfl, rfl⟩
def o_slices_ContainsFunc_Item_impl_isLetter_c1 (N : Nat) : List V → Bool × V := mkO T_slices_ContainsFunc_Item_impl_isLetter_c1 R_slices_ContainsFunc_Item_impl_isLetter_c1 (fun (x : (List DItem × Unit)) => P_slices_ContainsFunc_Item_impl_isLetter_c1 N x.1 x.2) (fun (x : (List DItem × Unit)) => G_slices_ContainsFunc_Item_impl_isLetter_c1 N x.1 x.2)
theorem slices_ContainsFunc_Item_impl_isLetter_c1_entry (N : Nat) : Entry Try.prog 117 (o_slices_ContainsFunc_Item_impl_isLetter_c1 N) := Entry.of fun (x : (List DItem × Unit)) h =>
  Pf.of_run hm Try.func117 okFn_slices_ContainsFunc_Item_impl_isLetter_c1 B_slices_ContainsFunc_Item_impl_isLetter_c1_ok B_slices_ContainsFunc_Item_impl_isLetter_c1_wf (O_slices_ContainsFunc_Item_impl_isLetter_c1_ok N) rfl ((F_slices_ContainsFunc_Item_impl_isLetter_c1_run N x.1 x.2).trans (FG_slices_ContainsFunc_Item_impl_isLetter_c1 x.1 x.2 h))
/-! loop.example/g00526/impl.isLetter -/
abbrev T_impl_isLetter : List GT := [tLetter]
abbrev R_impl_isLetter : List GT := [.b]
def fin_impl_isLetter : Fr2 → Hp → Option Bool := finF R_impl_isLetter [.t 2]
def O_impl_isLetter (N : Nat) : Orac := orc [(102, o_impl_within), (117, o_slices_ContainsFunc_Item_impl_isLetter_c1 N)] []
theorem O_impl_isLetter_ok (N : Nat) : OrcOk Try.prog (O_impl_isLetter N) := OrcOk.of ⟨impl_within_entry, slices_ContainsFunc_Item_impl_isLetter_c1_entry N, trivial⟩ trivial
def τ_impl_isLetter : Nat → Option GT := fun _ => none
def B_impl_isLetter : F2 := ⟨121, 1, [.t 2], τ_impl_isLetter,
    .seq (.reg .reg [.op (some 1) (.box (.t 0)),
      .op (some 2) (.mov (.c (.b false)))])
    (.seq (.reg .reg [.op (some 6) (.fad 0 (.t 1)),
      .op (some 7) (.load 1 false (.t 6)),
      .op (some 8) (.bin .eql (.t 7) (.c (.n .i64 3))),
      .op (some 3) (.mov (.t 8))])
    (.seq (.reg .reg [.op (some 9) (.mov (.t 3)),
      .op (some 10) (.mov (.t 9)),
      .br 10 false [.op (some 11) (.fad 0 (.t 1)), .op (some 12) (.load 1 false (.t 11)), .op (some 13) (.bin .eql (.t 12) (.c (.n .i64 1)))] [11, 12, 13] 14 13,
      .op (some 4) (.mov (.t 14))])
    (.seq (.reg .reg [.op (some 15) (.fad 0 (.t 1)),
      .op (some 16) (.load 1 false (.t 15)),
      .op (some 17) (.bin .eql (.t 16) (.c (.n .i64 2))),
      .op (some 18) (.mov (.t 17)),
      .br 18 false [.op (some 19) (.fad 0 (.t 1)), .op (some 20) (.load 1 false (.t 19)), .op (some 21) (.bin .eql (.t 20) (.c (.n .i64 4)))] [19, 20, 21] 22 21,
      .op (some 5) (.mov (.t 22))])
    (.seq (.reg .reg [.op (some 23) (.fad 0 (.t 1)),
      .op (some 24) (.load 1 false (.t 23)),
      .op (some 25) (.call (.c (.f 102 [])) [.t 24, .c (.n .i64 1), .c (.n .i64 4)]),
      .op (some 26) (.mov (.t 25)),
      .br 26 true [.op (some 27) (.fad 1 (.t 1)), .op (some 28) (.load 1 false (.t 27)), .op (some 29) (.call (.c (.f 102 [])) [.t 28, .c (.n .i64 0), .c (.n .i64 2)])] [27, 28, 29] 30 29,
      .op (some 31) (.mov (.t 30)),
      .br 31 true [.op (some 32) (.fad 2 (.t 1)), .op (some 33) (.load 1 false (.t 32)), .op (some 34) (.call (.c (.f 102 [])) [.t 33, .c (.n .i64 0), .c (.n .i64 2)])] [32, 33, 34] 35 34,
      .op (some 36) (.mov (.t 35)),
      .br 36 true [.op (some 37) (.fad 1 (.t 1)), .op (some 38) (.load 1 false (.t 37)), .op (some 39) (.fad 2 (.t 1)), .op (some 40) (.load 1 false (.t 39)), .op (some 41) (.bin .neq (.t 38) (.t 40))] [37, 38, 39, 40, 41] 42 41,
      .op (some 43) (.mov (.t 42)),
      .br 43 true [.op (some 44) (.fad 3 (.t 1)), .op (some 45) (.load 1 false (.t 44)), .op (some 46) (.call (.c (.f 102 [])) [.t 45, .c (.n .i64 1), .c (.n .i64 1000)])] [44, 45, 46] 47 46,
      .op (some 48) (.mov (.t 47)),
      .br 48 true [.op (some 49) (.fad 4 (.t 1)), .op (some 50) (.load 1 false (.t 49)), .op (some 51) (.call (.c (.f 102 [])) [.t 50, .c (.n .i64 0), .c (.n .i64 40)])] [49, 50, 51] 52 51,
      .op (some 53) (.mov (.t 52)),
      .br 53 true [.op (some 54) (.mov (.t 4)), .op (some 55) (.mov (.t 54)), .br 55 false [.op (some 56) (.fad 0 (.t 1)), .op (some 57) (.load 1 false (.t 56)), .op (some 58) (.bin .eql (.t 57) (.c (.n .i64 4)))] [56, 57, 58] 59 58, .op (some 60) (.mov (.t 59)), .br 60 false [.op (some 61) (.fad 4 (.t 1)), .op (some 62) (.load 1 false (.t 61)), .op (some 63) (.bin .eql (.t 62) (.c (.n .i64 0)))] [61, 62, 63] 64 63] [54, 55, 56, 57, 58, 59, 60, 61, 62, 63, 64] 65 64,
      .op (some 66) (.mov (.t 65)),
      .br 66 true [.op (some 67) (.fad 5 (.t 1)), .op (some 68) (.load 1 false (.t 67)), .op (some 69) (.call (.c (.f 102 [])) [.t 68, .c (.n .i64 0), .c (.n .i64 1000)])] [67, 68, 69] 70 69,
      .op (some 71) (.mov (.t 70)),
      .br 71 true [.op (some 72) (.mov (.t 4)), .op (some 73) (.mov (.t 72)), .br 73 false [.op (some 74) (.fad 5 (.t 1)), .op (some 75) (.load 1 false (.t 74)), .op (some 76) (.bin .eql (.t 75) (.c (.n .i64 0)))] [74, 75, 76] 77 76] [72, 73, 74, 75, 76, 77] 78 77,
      .op (some 79) (.mov (.t 78)),
      .br 79 true [.op (some 80) (.fad 7 (.t 1)), .op (some 81) (.load 1 false (.t 80)), .op (some 82) (.call (.c (.f 102 [])) [.t 81, .c (.n .i64 0), .c (.n .i64 40)])] [80, 81, 82] 83 82,
      .op (some 84) (.mov (.t 83)),
      .br 84 true [.op (some 85) (.mov (.t 3)), .op (some 86) (.mov (.t 85)), .br 86 false [.op (some 87) (.fad 7 (.t 1)), .op (some 88) (.load 1 false (.t 87)), .op (some 89) (.bin .eql (.t 88) (.c (.n .i64 0)))] [87, 88, 89] 90 89] [85, 86, 87, 88, 89, 90] 91 90,
      .op (some 92) (.mov (.t 91)),
      .br 92 true [.op (some 93) (.fad 6 (.t 1)), .op (some 94) (.load 1 false (.t 93)), .op (some 95) (.len false (.t 94)), .op (some 96) (.bin .leq (.t 95) (.c (.n .i64 4)))] [93, 94, 95, 96] 97 96,
      .op (some 98) (.mov (.t 97)),
      .br 98 true [.op (some 99) (.mov (.t 3)), .op (some 100) (.mov (.t 99)), .br 100 false [.op (some 101) (.fad 6 (.t 1)), .op (some 102) (.load 1 false (.t 101)), .op (some 103) (.len false (.t 102)), .op (some 104) (.bin .eql (.t 103) (.c (.n .i64 0)))] [101, 102, 103, 104] 105 104] [99, 100, 101, 102, 103, 104, 105] 106 105,
      .op (some 107) (.mov (.t 106)),
      .br 107 true [.op (some 108) (.fad 6 (.t 1)), .op (some 109) (.load 1 false (.t 108)), .op (some 110) (.call (.c (.f 117 [])) [.t 109, .c (.f 118 [])]), .op (some 111) (.un .not (.t 110))] [108, 109, 110, 111] 112 111,
      .op (some 113) (.mov (.t 112)),
      .br 113 true [.op (some 114) (.mov (.t 5)), .op (some 115) (.mov (.t 114)), .br 115 false [.op (some 116) (.fad 8 (.t 1)), .op (some 117) (.load 1 false (.t 116)), .op (some 118) (.un .not (.t 117))] [116, 117, 118] 119 118] [114, 115, 116, 117, 118, 119] 120 119,
      .op (some 2) (.mov (.t 120))])
    (.ret)))))⟩
theorem B_impl_isLetter_ok : checkFn Try.prog Try.f96 B_impl_isLetter.toA = true := by kernel_rfl
theorem B_impl_isLetter_wf : B_impl_isLetter.body.wf = true := by kernel_rfl
theorem okFn_impl_isLetter : okFn Try.prog 96 = true := by kernel_rfl
def F_impl_isLetter (N : Nat) (a0 : DLetter) : Option Bool :=
  chk ((P_slices_ContainsFunc_Item_impl_isLetter_c1 N a0.2.2.2.2.2.2.1 ()) || (!(((((((((((((G_impl_within a0.1 (1 : Int) (4 : Int)) && (G_impl_within a0.2.1 (0 : Int) (2 : Int))) && (G_impl_within a0.2.2.1 (0 : Int) (2 : Int))) && (!ieq a0.2.1 a0.2.2.1)) && (G_impl_within a0.2.2.2.1 (1 : Int) (1000 : Int))) && (G_impl_within a0.2.2.2.2.1 (0 : Int) (40 : Int))) && ((((ieq a0.1 (3 : Int)) || (ieq a0.1 (1 : Int))) || (ieq a0.1 (4 : Int))) || (ieq a0.2.2.2.2.1 (0 : Int)))) && (G_impl_within a0.2.2.2.2.2.1 (0 : Int) (1000 : Int))) && (((ieq a0.1 (3 : Int)) || (ieq a0.1 (1 : Int))) || (ieq a0.2.2.2.2.2.1 (0 : Int)))) && (G_impl_within a0.2.2.2.2.2.2.2.1 (0 : Int) (40 : Int))) && ((ieq a0.1 (3 : Int)) || (ieq a0.2.2.2.2.2.2.2.1 (0 : Int)))) && (ile ((a0.2.2.2.2.2.2.1.length) : Int) (4 : Int))) && ((ieq a0.1 (3 : Int)) || (ieq ((a0.2.2.2.2.2.2.1.length) : Int) (0 : Int)))))) <|
  some (((((((((((((((G_impl_within a0.1 (1 : Int) (4 : Int)) && (G_impl_within a0.2.1 (0 : Int) (2 : Int))) && (G_impl_within a0.2.2.1 (0 : Int) (2 : Int))) && (!ieq a0.2.1 a0.2.2.1)) && (G_impl_within a0.2.2.2.1 (1 : Int) (1000 : Int))) && (G_impl_within a0.2.2.2.2.1 (0 : Int) (40 : Int))) && ((((ieq a0.1 (3 : Int)) || (ieq a0.1 (1 : Int))) || (ieq a0.1 (4 : Int))) || (ieq a0.2.2.2.2.1 (0 : Int)))) && (G_impl_within a0.2.2.2.2.2.1 (0 : Int) (1000 : Int))) && (((ieq a0.1 (3 : Int)) || (ieq a0.1 (1 : Int))) || (ieq a0.2.2.2.2.2.1 (0 : Int)))) && (G_impl_within a0.2.2.2.2.2.2.2.1 (0 : Int) (40 : Int))) && ((ieq a0.1 (3 : Int)) || (ieq a0.2.2.2.2.2.2.2.1 (0 : Int)))) && (ile ((a0.2.2.2.2.2.2.1.length) : Int) (4 : Int))) && ((ieq a0.1 (3 : Int)) || (ieq ((a0.2.2.2.2.2.2.1.length) : Int) (0 : Int)))) && (!(G_slices_ContainsFunc_Item_impl_isLetter_c1 N a0.2.2.2.2.2.2.1 ()))) && (((ieq a0.1 (2 : Int)) || (ieq a0.1 (4 : Int))) || (!a0.2.2.2.2.2.2.2.2)))
theorem F_impl_isLetter_run (N : Nat) (a0 : DLetter) :
    runF (O_impl_isLetter N) N B_impl_isLetter R_impl_isLetter (vals T_impl_isLetter a0) = F_impl_isLetter N a0 := by kernel_rfl
def P_impl_isLetter (N : Nat) (a0 : DLetter) : Bool := lock (F_impl_isLetter N a0).isSome
def G_impl_isLetter (N : Nat) (a0 : DLetter) : Bool := lock ((F_impl_isLetter N a0).getD false)
theorem FG_impl_isLetter {N : Nat} (a0 : DLetter) (h : P_impl_isLetter N a0 = true) : F_impl_isLetter N a0 = some (G_impl_isLetter N a0) := by unfold P_impl_isLetter at h; unfold G_impl_isLetter; rw [lock_eq] at h ⊢; exact some_of_isSome h
theorem PG_impl_isLetter {N : Nat} {a0 : DLetter} {v : Bool} (h : F_impl_isLetter N a0 = some v) : P_impl_isLetter N a0 = true ∧ G_impl_isLetter N a0 = v := by unfold P_impl_isLetter G_impl_isLetter; rw [h, lock_eq, lock_eq]; exact ⟨rfl, rfl⟩
def o_impl_isLetter (N : Nat) : List V → Bool × V := mkO T_impl_isLetter R_impl_isLetter (fun (x : DLetter) => P_impl_isLetter N x) (fun (x : DLetter) => G_impl_isLetter N x)
theorem impl_isLetter_entry (N : Nat) : Entry Try.prog 96 (o_impl_isLetter N) := Entry.of fun (x : DLetter) h =>
  Pf.of_run hm Try.func96 okFn_impl_isLetter B_impl_isLetter_ok B_impl_isLetter_wf (O_impl_isLetter_ok N) rfl ((F_impl_isLetter_run N x).trans (FG_impl_isLetter x h))
/-! loop.example/g00526/impl.isHouse$1 -/
abbrev T_impl_isHouse_c1 : List GT := [tLetter]
abbrev R_impl_isHouse_c1 : List GT := [.b]
def fin_impl_isHouse_c1 : Fr2 → Hp → Option Bool := finF R_impl_isHouse_c1 [.t 2]
def O_impl_isHouse_c1 (N : Nat) : Orac := orc [(96, o_impl_isLetter N)] []
theorem O_impl_isHouse_c1_ok (N : Nat) : OrcOk Try.prog (O_impl_isHouse_c1 N) := OrcOk.of ⟨impl_isLetter_entry N, trivial⟩ trivial
def τ_impl_isHouse_c1 : Nat → Option GT := fun _ => none
def B_impl_isHouse_c1 : F2 := ⟨6, 1, [.t 2], τ_impl_isHouse_c1,
    .seq (.reg .reg [.op (some 1) (.box (.t 0)),
      .op (some 2) (.mov (.c (.b false)))])
    (.seq (.reg .reg [.op (some 3) (.load 9 true (.t 1)),
      .op (some 4) (.call (.c (.f 96 [])) [.t 3]),
      .op (some 5) (.un .not (.t 4)),
      .op (some 2) (.mov (.t 5))])
    (.ret))⟩
theorem B_impl_isHouse_c1_ok : checkFn Try.prog Try.f110 B_impl_isHouse_c1.toA = true := by kernel_rfl
theorem B_impl_isHouse_c1_wf : B_impl_isHouse_c1.body.wf = true := by kernel_rfl
theorem okFn_impl_isHouse_c1 : okFn Try.prog 110 = true := by kernel_rfl
def F_impl_isHouse_c1 (N : Nat) (a0 : DLetter) : Option Bool :=
  chk (P_impl_isLetter N a0) <|
  some (!(G_impl_isLetter N a0))
theorem F_impl_isHouse_c1_run (N : Nat) (a0 : DLetter) :
    runF (O_impl_isHouse_c1 N) N B_impl_isHouse_c1 R_impl_isHouse_c1 (vals T_impl_isHouse_c1 a0) = F_impl_isHouse_c1 N a0 := by kernel_rfl
def P_impl_isHouse_c1 (N : Nat) (a0 : DLetter) : Bool := lock (F_impl_isHouse_c1 N a0).isSome
def G_impl_isHouse_c1 (N : Nat) (a0 : DLetter) : Bool := lock ((F_impl_isHouse_c1 N a0).getD false)
theorem FG_impl_isHouse_c1 {N : Nat} (a0 : DLetter) (h : P_impl_isHouse_c1 N a0 = true) : F_impl_isHouse_c1 N a0 = some (G_impl_isHouse_c1 N a0) := by unfold P_impl_isHouse_c1 at h; unfold G_impl_isHouse_c1; rw [lock_eq] at h ⊢; exact some_of_isSome h
theorem PG_impl_isHouse_c1 {N : Nat} {a0 : DLetter} {v : Bool} (h : F_impl_isHouse_c1 N a0 = some v) : P_impl_isHouse_c1 N a0 = true ∧ G_impl_isHouse_c1 N a0 = v := by unfold P_impl_isHouse_c1 G_impl_isHouse_c1; rw [h, lock_eq, lock_eq]; exact ⟨rfl, rfl⟩
def o_impl_isHouse_c1 (N : Nat) : List V → Bool × V := mkO T_impl_isHouse_c1 R_impl_isHouse_c1 (fun (x : DLetter) => P_impl_isHouse_c1 N x) (fun (x : DLetter) => G_impl_isHouse_c1 N x)
theorem impl_isHouse_c1_entry (N : Nat) : Entry Try.prog 110 (o_impl_isHouse_c1 N) := Entry.of fun (x : DLetter) h =>
  Pf.of_run hm Try.func110 okFn_impl_isHouse_c1 B_impl_isHouse_c1_ok B_impl_isHouse_c1_wf (O_impl_isHouse_c1_ok N) rfl ((F_impl_isHouse_c1_run N x).trans (FG_impl_isHouse_c1 x h))
/-! slices.IndexFunc[[]loop.example/g00526/impl.Letter,loop.example/g00526/impl.Letter] -/
abbrev T_slices_IndexFunc_Letter_impl_isHouse_c1 : List GT := [(.sl tLetter), (.fn 110 [])]
abbrev R_slices_IndexFunc_Letter_impl_isHouse_c1 : List GT := [(.i .i64)]
def fin_slices_IndexFunc_Letter_impl_isHouse_c1 : Fr2 → Hp → Option Int := finF R_slices_IndexFunc_Letter_impl_isHouse_c1 [.t 4]
def O_slices_IndexFunc_Letter_impl_isHouse_c1 (N : Nat) : Orac := orc [(110, o_impl_isHouse_c1 N)] []
theorem O_slices_IndexFunc_Letter_impl_isHouse_c1_ok (N : Nat) : OrcOk Try.prog (O_slices_IndexFunc_Letter_impl_isHouse_c1 N) := OrcOk.of ⟨impl_isHouse_c1_entry N, trivial⟩ trivial
def c_slices_IndexFunc_Letter_impl_isHouse_c1_1 : C2 :=
    .seq (.reg .reg [.op (some 9) (.bin .lss (.t 8) (.t 7))])
    (.seq (.cond (.t 9) (.skip)
    (.exit 0))
    (.seq (.block 1 (.seq (.reg .reg [.op (some 10) (.mov (.t 8)),
      .op (some 5) (.mov (.t 10))])
    (.seq (.reg .reg [.op (some 11) (.mov (.t 1)),
      .op (some 12) (.mov (.t 0)),
      .op (some 13) (.mov (.t 5)),
      .op (some 14) (.iad 9 (.t 12) (.t 13)),
      .op (some 15) (.load 9 true (.t 14)),
      .op (some 16) (.call (.t 11) [.t 15])])
    (.cond (.t 16) (.seq (.reg .reg [.op (some 17) (.mov (.t 5)),
      .op (some 4) (.mov (.t 17))])
    (.ret))
    (.skip)))))
    (.reg .reg [.op (some 18) (.bin .add (.t 8) (.c (.n .i64 1))),
      .op (some 8) (.mov (.t 18))])))
def c_slices_IndexFunc_Letter_impl_isHouse_c1_2 : C2 :=
    .seq (.reg .reg [.op (some 4) (.mov (.c (.n .i64 (-1))))])
    (.ret)
def τ_slices_IndexFunc_Letter_impl_isHouse_c1 : Nat → Option GT := fun _ => none
def B_slices_IndexFunc_Letter_impl_isHouse_c1 : F2 := ⟨19, 2, [.t 4], τ_slices_IndexFunc_Letter_impl_isHouse_c1,
    .seq (.reg .reg [.op (some 4) (.mov (.c (.n .i64 0)))])
    (.seq (.seq (.reg .reg [.op (some 6) (.mov (.t 0)),
      .op (some 7) (.len false (.t 6)),
      .op (some 8) (.mov (.c (.n .i64 0)))])
    (.block 0 (.loop [0, 1, 7, 8] [] [] c_slices_IndexFunc_Letter_impl_isHouse_c1_1)))
    (c_slices_IndexFunc_Letter_impl_isHouse_c1_2))⟩
theorem B_slices_IndexFunc_Letter_impl_isHouse_c1_ok : checkFn Try.prog Try.f126 B_slices_IndexFunc_Letter_impl_isHouse_c1.toA = true := by kernel_rfl
theorem B_slices_IndexFunc_Letter_impl_isHouse_c1_wf : B_slices_IndexFunc_Letter_impl_isHouse_c1.body.wf = true := by kernel_rfl
theorem okFn_slices_IndexFunc_Letter_impl_isHouse_c1 : okFn Try.prog 126 = true := by kernel_rfl
def slices_IndexFunc_Letter_impl_isHouse_c1_l1s (r0 : Int → Option Int) (k0_0 : Option Int) (N : Nat) (a0 : List DLetter) (pv7_1 : Int) (v8_1 : Int) : Option Int :=
  bif (ilt v8_1 pv7_1) then
    let x1 : DLetter := (a0.getD (v8_1.toNat) dLetter)
    chk (inb v8_1 (a0.length)) <|
    chk (P_impl_isHouse_c1 N x1) <|
    bif (G_impl_isHouse_c1 N x1) then
      some v8_1
    else
      r0 (w64 (v8_1 + (1 : Int)))
  else
    k0_0
theorem slices_IndexFunc_Letter_impl_isHouse_c1_l1s_run (N : Nat) (C0 : Fr2 → Hp → Option Int) (K0 : Option Nat → Fr2 → Hp → Option Int) (a0 : List DLetter) (pv7_1 : Int) (v8_1 : Int) :
    rcode (O_slices_IndexFunc_Letter_impl_isHouse_c1 N) τ_slices_IndexFunc_Letter_impl_isHouse_c1 N fin_slices_IndexFunc_Letter_impl_isHouse_c1 c_slices_IndexFunc_Letter_impl_isHouse_c1_1 [(0, .q tLetter a0), (1, .f 110 []), (7, .n .i64 pv7_1), (8, .n .i64 v8_1)] ⟨1, []⟩ (roundK [0, 1, 7, 8] [] [] C0 K0) = slices_IndexFunc_Letter_impl_isHouse_c1_l1s (fun v8_1 => C0 [(0, .q tLetter a0), (1, .f 110 []), (7, .n .i64 pv7_1), (8, .n .i64 v8_1)] ⟨1, []⟩) (K0 (some 0) [] ⟨1, []⟩) N a0 pv7_1 v8_1 := by kernel_rfl
def slices_IndexFunc_Letter_impl_isHouse_c1_x1_0 (N : Nat) : Option Int :=
  some (-1 : Int)
theorem slices_IndexFunc_Letter_impl_isHouse_c1_x1_0_run (N : Nat)  :
    (blockK 0 (seqK' (fun fr H K => rcode (O_slices_IndexFunc_Letter_impl_isHouse_c1 N) τ_slices_IndexFunc_Letter_impl_isHouse_c1 N fin_slices_IndexFunc_Letter_impl_isHouse_c1 c_slices_IndexFunc_Letter_impl_isHouse_c1_2 fr H K) (finK R_slices_IndexFunc_Letter_impl_isHouse_c1 [.t 4]))) (some 0) [] ⟨1, []⟩ = slices_IndexFunc_Letter_impl_isHouse_c1_x1_0 N := by kernel_rfl
def slices_IndexFunc_Letter_impl_isHouse_c1_l1 (k0_0 : Option Int) (N : Nat) (a0 : List DLetter) (pv7_1 : Int) : Nat → Int → Option Int
  | 0, _ => none
  | n + 1, v8_1 => slices_IndexFunc_Letter_impl_isHouse_c1_l1s (slices_IndexFunc_Letter_impl_isHouse_c1_l1 k0_0 N a0 pv7_1 n) k0_0 N a0 pv7_1 v8_1
def slices_IndexFunc_Letter_impl_isHouse_c1_h1 (N : Nat) (a0 : List DLetter) (pv7_1 : Int) (v8_1 : Int) : Option Int :=
  slices_IndexFunc_Letter_impl_isHouse_c1_l1 (slices_IndexFunc_Letter_impl_isHouse_c1_x1_0 N) N a0 pv7_1 N v8_1
theorem slices_IndexFunc_Letter_impl_isHouse_c1_l1_run (N : Nat)  (K : Option Nat → Fr2 → Hp → Option Int) (a0 : List DLetter) (pv7_1 : Int) : ∀ (n : Nat) (v8_1 : Int),
    rloop (fun fr H K => rcode (O_slices_IndexFunc_Letter_impl_isHouse_c1 N) τ_slices_IndexFunc_Letter_impl_isHouse_c1 N fin_slices_IndexFunc_Letter_impl_isHouse_c1 c_slices_IndexFunc_Letter_impl_isHouse_c1_1 fr H K) [0, 1, 7, 8] [] [] K n [(0, .q tLetter a0), (1, .f 110 []), (7, .n .i64 pv7_1), (8, .n .i64 v8_1)] ⟨1, []⟩ = slices_IndexFunc_Letter_impl_isHouse_c1_l1 (K (some 0) [] ⟨1, []⟩) N a0 pv7_1 n v8_1 := by
  intro n
  induction n with
  | zero => intro v8_1; kernel_rfl
  | succ n ih => intro v8_1; exact (slices_IndexFunc_Letter_impl_isHouse_c1_l1s_run N (rloop (fun fr H K => rcode (O_slices_IndexFunc_Letter_impl_isHouse_c1 N) τ_slices_IndexFunc_Letter_impl_isHouse_c1 N fin_slices_IndexFunc_Letter_impl_isHouse_c1 c_slices_IndexFunc_Letter_impl_isHouse_c1_1 fr H K) [0, 1, 7, 8] [] [] K n) K a0 pv7_1 v8_1).trans (congrArg (fun r => slices_IndexFunc_Letter_impl_isHouse_c1_l1s r (K (some 0) [] ⟨1, []⟩) N a0 pv7_1 v8_1) (funext fun v8_1 => ih v8_1))
theorem slices_IndexFunc_Letter_impl_isHouse_c1_h1_run (N : Nat) (a0 : List DLetter) (pv7_1 : Int) (v8_1 : Int) : rloop (fun fr H K => rcode (O_slices_IndexFunc_Letter_impl_isHouse_c1 N) τ_slices_IndexFunc_Letter_impl_isHouse_c1 N fin_slices_IndexFunc_Letter_impl_isHouse_c1 c_slices_IndexFunc_Letter_impl_isHouse_c1_1 fr H K) [0, 1, 7, 8] [] [] (blockK 0 (seqK' (fun fr H K => rcode (O_slices_IndexFunc_Letter_impl_isHouse_c1 N) τ_slices_IndexFunc_Letter_impl_isHouse_c1 N fin_slices_IndexFunc_Letter_impl_isHouse_c1 c_slices_IndexFunc_Letter_impl_isHouse_c1_2 fr H K) (finK R_slices_IndexFunc_Letter_impl_isHouse_c1 [.t 4]))) N [(0, .q tLetter a0), (1, .f 110 []), (7, .n .i64 pv7_1), (8, .n .i64 v8_1)] ⟨1, []⟩ = slices_IndexFunc_Letter_impl_isHouse_c1_h1 N a0 pv7_1 v8_1 :=
  ((slices_IndexFunc_Letter_impl_isHouse_c1_l1_run N (blockK 0 (seqK' (fun fr H K => rcode (O_slices_IndexFunc_Letter_impl_isHouse_c1 N) τ_slices_IndexFunc_Letter_impl_isHouse_c1 N fin_slices_IndexFunc_Letter_impl_isHouse_c1 c_slices_IndexFunc_Letter_impl_isHouse_c1_2 fr H K) (finK R_slices_IndexFunc_Letter_impl_isHouse_c1 [.t 4]))) a0 pv7_1 N v8_1)).trans (congrArg (fun h => slices_IndexFunc_Letter_impl_isHouse_c1_l1 h N a0 pv7_1 N v8_1) (slices_IndexFunc_Letter_impl_isHouse_c1_x1_0_run N ))
def F_slices_IndexFunc_Letter_impl_isHouse_c1R (N : Nat) (slices_IndexFunc_Letter_impl_isHouse_c1_h1 : List DLetter → Int → Int → Option Int) (a0 : List DLetter) (a1 : Unit) : Option Int :=
  slices_IndexFunc_Letter_impl_isHouse_c1_h1 a0 ((a0.length) : Int) (0 : Int)
def F_slices_IndexFunc_Letter_impl_isHouse_c1 (N : Nat) (a0 : List DLetter) (a1 : Unit) : Option Int := F_slices_IndexFunc_Letter_impl_isHouse_c1R N (slices_IndexFunc_Letter_impl_isHouse_c1_h1 N) a0 a1
theorem F_slices_IndexFunc_Letter_impl_isHouse_c1_raw (N : Nat) (a0 : List DLetter) (a1 : Unit) :
    runF (O_slices_IndexFunc_Letter_impl_isHouse_c1 N) N B_slices_IndexFunc_Letter_impl_isHouse_c1 R_slices_IndexFunc_Letter_impl_isHouse_c1 (vals T_slices_IndexFunc_Letter_impl_isHouse_c1 (a0, a1)) = F_slices_IndexFunc_Letter_impl_isHouse_c1R N (fun a0 pv7_1 v8_1 => rloop (fun fr H K => rcode (O_slices_IndexFunc_Letter_impl_isHouse_c1 N) τ_slices_IndexFunc_Letter_impl_isHouse_c1 N fin_slices_IndexFunc_Letter_impl_isHouse_c1 c_slices_IndexFunc_Letter_impl_isHouse_c1_1 fr H K) [0, 1, 7, 8] [] [] (blockK 0 (seqK' (fun fr H K => rcode (O_slices_IndexFunc_Letter_impl_isHouse_c1 N) τ_slices_IndexFunc_Letter_impl_isHouse_c1 N fin_slices_IndexFunc_Letter_impl_isHouse_c1 c_slices_IndexFunc_Letter_impl_isHouse_c1_2 fr H K) (finK R_slices_IndexFunc_Letter_impl_isHouse_c1 [.t 4]))) N [(0, .q tLetter a0), (1, .f 110 []), (7, .n .i64 pv7_1), (8, .n .i64 v8_1)] ⟨1, []⟩) a0 a1 := by kernel_rfl
theorem F_slices_IndexFunc_Letter_impl_isHouse_c1_run (N : Nat) (a0 : List DLetter) (a1 : Unit) :
    runF (O_slices_IndexFunc_Letter_impl_isHouse_c1 N) N B_slices_IndexFunc_Letter_impl_isHouse_c1 R_slices_IndexFunc_Letter_impl_isHouse_c1 (vals T_slices_IndexFunc_Letter_impl_isHouse_c1 (a0, a1)) = F_slices_IndexFunc_Letter_impl_isHouse_c1 N a0 a1 :=
  (F_slices_IndexFunc_Letter_impl_isHouse_c1_raw N a0 a1).trans (congrArg (fun h => F_slices_IndexFunc_Letter_impl_isHouse_c1R N h a0 a1) (funext fun a0 => funext fun pv7_1 => funext fun v8_1 => slices_IndexFunc_Letter_impl_isHouse_c1_h1_run N a0 pv7_1 v8_1))
def P_slices_IndexFunc_Letter_impl_isHouse_c1 (N : Nat) (a0 : List DLetter) (a1 : Unit) : Bool := lock (F_slices_IndexFunc_Letter_impl_isHouse_c1 N a0 a1).isSome
def G_slices_IndexFunc_Letter_impl_isHouse_c1 (N : Nat) (a0 : List DLetter) (a1 : Unit) : Int := lock ((F_slices_IndexFunc_Letter_impl_isHouse_c1 N a0 a1).getD (0 : Int))
theorem FG_slices_IndexFunc_Letter_impl_isHouse_c1 {N : Nat} (a0 : List DLetter) (a1 : Unit) (h : P_slices_IndexFunc_Letter_impl_isHouse_c1 N a0 a1 = true) : F_slices_IndexFunc_Letter_impl_isHouse_c1 N a0 a1 = some (G_slices_IndexFunc_Letter_impl_isHouse_c1 N a0 a1) := by unfold P_slices_IndexFunc_Letter_impl_isHouse_c1 at h; unfold G_slices_IndexFunc_Letter_impl_isHouse_c1; rw [lock_eq] at h ⊢; exact some_of_isSome h
theorem PG_slices_IndexFunc_Letter_impl_isHouse_c1 {N : Nat} {a0 : List DLetter} {a1 : Unit} {v : Int} (h : F_slices_IndexFunc_Letter_impl_isHouse_c1 N a0 a1 = some v) : P_slices_IndexFunc_Letter_impl_isHouse_c1 N a0 a1 = true ∧ G_slices_IndexFunc_Letter_impl_isHouse_c1 N a0 a1 = v := by unfold P_slices_IndexFunc_Letter_impl_isHouse_c1 G_slices_IndexFunc_Letter_impl_isHouse_c1; rw [h, lock_eq, lock_eq]; exact ⟨rfl, rfl⟩
def o_slices_IndexFunc_Letter_impl_isHouse_c1 (N : Nat) : List V → Bool × V := mkO T_slices_IndexFunc_Letter_impl_isHouse_c1 R_slices_IndexFunc_Letter_impl_isHouse_c1 (fun (x : (List DLetter × Unit)) => P_slices_IndexFunc_Letter_impl_isHouse_c1 N x.1 x.2) (fun (x : (List DLetter × Unit)) => G_slices_IndexFunc_Letter_impl_isHouse_c1 N x.1 x.2)
theorem slices_IndexFunc_Letter_impl_isHouse_c1_entry (N : Nat) : Entry Try.prog 126 (o_slices_IndexFunc_Letter_impl_isHouse_c1 N) := Entry.of fun (x : (List DLetter × Unit)) h =>
  Pf.of_run hm Try.func126 okFn_slices_IndexFunc_Letter_impl_isHouse_c1 B_slices_IndexFunc_Letter_impl_isHouse_c1_ok B_slices_IndexFunc_Letter_impl_isHouse_c1_wf (O_slices_IndexFunc_Letter_impl_isHouse_c1_ok N) rfl ((F_slices_IndexFunc_Letter_impl_isHouse_c1_run N x.1 x.2).trans (FG_slices_IndexFunc_Letter_impl_isHouse_c1 x.1 x.2 h))
/-! slices.ContainsFunc[[]loop.example/g00526/impl.Letter,loop.example/g00526/impl.Letter] -/
abbrev T_slices_ContainsFunc_Letter_impl_isHouse_c1 : List GT := [(.sl tLetter), (.fn 110 [])]
abbrev R_slices_ContainsFunc_Letter_impl_isHouse_c1 : List GT := [.b]
def fin_slices_ContainsFunc_Letter_impl_isHouse_c1 : Fr2 → Hp → Option Bool := finF R_slices_ContainsFunc_Letter_impl_isHouse_c1 [.t 4]
def O_slices_ContainsFunc_Letter_impl_isHouse_c1 (N : Nat) : Orac := orc [(126, o_slices_IndexFunc_Letter_impl_isHouse_c1 N)] []
theorem O_slices_ContainsFunc_Letter_impl_isHouse_c1_ok (N : Nat) : OrcOk Try.prog (O_slices_ContainsFunc_Letter_impl_isHouse_c1 N) := OrcOk.of ⟨slices_IndexFunc_Letter_impl_isHouse_c1_entry N, trivial⟩ trivial
def τ_slices_ContainsFunc_Letter_impl_isHouse_c1 : Nat → Option GT := fun _ => none
def B_slices_ContainsFunc_Letter_impl_isHouse_c1 : F2 := ⟨9, 2, [.t 4], τ_slices_ContainsFunc_Letter_impl_isHouse_c1,
    .seq (.reg .reg [.op (some 4) (.mov (.c (.b false)))])
    (.seq (.reg .reg [.op (some 5) (.mov (.t 0)),
      .op (some 6) (.mov (.t 1)),
      .op (some 7) (.call (.c (.f 126 [])) [.t 5, .t 6]),
      .op (some 8) (.bin .geq (.t 7) (.c (.n .i64 0))),
      .op (some 4) (.mov (.t 8))])
    (.ret))⟩
theorem B_slices_ContainsFunc_Letter_impl_isHouse_c1_ok : checkFn Try.prog Try.f109 B_slices_ContainsFunc_Letter_impl_isHouse_c1.toA = true := by kernel_rfl
theorem B_slices_ContainsFunc_Letter_impl_isHouse_c1_wf : B_slices_ContainsFunc_Letter_impl_isHouse_c1.body.wf = true := by kernel_rfl
theorem okFn_slices_ContainsFunc_Letter_impl_isHouse_c1 : okFn Try.prog 109 = true := by kernel_rfl
def F_slices_ContainsFunc_Letter_impl_isHouse_c1 (N : Nat) (a0 : List DLetter) (a1 : Unit) : Option Bool :=
  chk (P_slices_IndexFunc_Letter_impl_isHouse_c1 N a0 ()) <|
  some (ile (0 : Int) (G_slices_IndexFunc_Letter_impl_isHouse_c1 N a0 ()))
theorem F_slices_ContainsFunc_Letter_impl_isHouse_c1_run (N : Nat) (a0 : List DLetter) (a1 : Unit) :
    runF (O_slices_ContainsFunc_Letter_impl_isHouse_c1 N) N B_slices_ContainsFunc_Letter_impl_isHouse_c1 R_slices_ContainsFunc_Letter_impl_isHouse_c1 (vals T_slices_ContainsFunc_Letter_impl_isHouse_c1 (a0, a1)) = F_slices_ContainsFunc_Letter_impl_isHouse_c1 N a0 a1 := by kernel_rfl
def P_slices_ContainsFunc_Letter_impl_isHouse_c1 (N : Nat) (a0 : List DLetter) (a1 : Unit) : Bool := lock (F_slices_ContainsFunc_Letter_impl_isHouse_c1 N a0 a1).isSome
def G_slices_ContainsFunc_Letter_impl_isHouse_c1 (N : Nat) (a0 : List DLetter) (a1 : Unit) : Bool := lock ((F_slices_ContainsFunc_Letter_impl_isHouse_c1 N a0 a1).getD false)
theorem FG_slices_ContainsFunc_Letter_impl_isHouse_c1 {N : Nat} (a0 : List DLetter) (a1 : Unit) (h : P_slices_ContainsFunc_Letter_impl_isHouse_c1 N a0 a1 = true) : F_slices_ContainsFunc_Letter_impl_isHouse_c1 N a0 a1 = some (G_slices_ContainsFunc_Letter_impl_isHouse_c1 N a0 a1) := by unfold P_slices_ContainsFunc_Letter_impl_isHouse_c1 at h; unfold G_slices_ContainsFunc_Letter_impl_isHouse_c1; rw [lock_eq] at h ⊢; exact some_of_isSome h
theorem PG_slices_ContainsFunc_Letter_impl_isHouse_c1 {N : Nat} {a0 : List DLetter} {a1 : Unit} {v : Bool} (h : F_slices_ContainsFunc_Letter_impl_isHouse_c1 N a0 a1 = some v) : P_slices_ContainsFunc_Letter_impl_isHouse_c1 N a0 a1 = true ∧ G_slices_ContainsFunc_Letter_impl_isHouse_c1 N a0 a1 = v := by unfold P_slices_ContainsFunc_Letter_impl_isHouse_c1 G_slices_ContainsFunc_Letter_impl_isHouse_c1; rw [h, lock_eq, lock_eq]; exact ⟨rfl, rfl⟩
def o_slices_ContainsFunc_Letter_impl_isHouse_c1 (N : Nat) : List V → Bool × V := mkO T_slices_ContainsFunc_Letter_impl_isHouse_c1 R_slices_ContainsFunc_Letter_impl_isHouse_c1 (fun (x : (List DLetter × Unit)) => P_slices_ContainsFunc_Letter_impl_isHouse_c1 N x.1 x.2) (fun (x : (List DLetter × Unit)) => G_slices_ContainsFunc_Letter_impl_isHouse_c1 N x.1 x.2)
theorem slices_ContainsFunc_Letter_impl_isHouse_c1_entry (N : Nat) : Entry Try.prog 109 (o_slices_ContainsFunc_Letter_impl_isHouse_c1 N) := Entry.of fun (x : (List DLetter × Unit)) h =>
  Pf.of_run hm Try.func109 okFn_slices_ContainsFunc_Letter_impl_isHouse_c1 B_slices_ContainsFunc_Letter_impl_isHouse_c1_ok B_slices_ContainsFunc_Letter_impl_isHouse_c1_wf (O_slices_ContainsFunc_Letter_impl_isHouse_c1_ok N) rfl ((F_slices_ContainsFunc_Letter_impl_isHouse_c1_run N x.1 x.2).trans (FG_slices_ContainsFunc_Letter_impl_isHouse_c1 x.1 x.2 h))
/-! loop.example/g00526/impl.isHouse -/
abbrev T_impl_isHouse : List GT := [tHouse]
abbrev R_impl_isHouse : List GT := [.b]
def fin_impl_isHouse : Fr2 → Hp → Option Bool := finF R_impl_isHouse [.t 2]
def O_impl_isHouse (N : Nat) : Orac := orc [(67, o_impl_isKeeper N), (109, o_slices_ContainsFunc_Letter_impl_isHouse_c1 N)] []
theorem O_impl_isHouse_ok (N : Nat) : OrcOk Try.prog (O_impl_isHouse N) := OrcOk.of ⟨impl_isKeeper_entry N, slices_ContainsFunc_Letter_impl_isHouse_c1_entry N, trivial⟩ trivial
def c_impl_isHouse_1 : C2 :=
    .seq (.reg .reg [.op (some 9) (.bin .lss (.t 8) (.t 7))])
    (.seq (.cond (.t 9) (.skip)
    (.exit 0))
    (.seq (.block 1 (.seq (.reg .reg [.op (some 10) (.mov (.t 8)),
      .op (some 11) (.iad 10 (.t 6) (.t 8)),
      .op (some 12) (.load 10 true (.t 11)),
      .op (some 4) (.aloc [.n .i64 0, .n .i64 0, .n .i64 0, .l 0 0 0, .n .i64 0, .n .i64 0, .n .i64 0, .l 0 0 0, .l 0 0 0, .b false]),
      .op (some 3) (.mov (.t 10)),
      .op none (.stor 10 (.t 4) (.t 12))])
    (.seq (.reg .reg [.op (some 13) (.load 10 true (.t 4)),
      .op (some 14) (.call (.c (.f 67 [])) [.t 13]),
      .op (some 15) (.un .not (.t 14)),
      .op (some 16) (.mov (.t 15)),
      .br 16 false [.op (some 17) (.fad 0 (.t 4)), .op (some 18) (.load 1 false (.t 17)), .op (some 19) (.mov (.t 3)), .op (some 20) (.bin .neq (.t 18) (.t 19))] [17, 18, 19, 20] 21 20])
    (.cond (.t 21) (.seq (.reg .reg [.op (some 2) (.mov (.c (.b false)))])
    (.ret))
    (.skip)))))
    (.reg .reg [.op (some 22) (.bin .add (.t 8) (.c (.n .i64 1))),
      .op (some 8) (.mov (.t 22))])))
def c_impl_isHouse_2 : C2 :=
    .seq (.reg .reg [.op (some 23) (.fad 0 (.t 1)),
      .op (some 24) (.load 1 false (.t 23)),
      .op (some 25) (.len false (.t 24)),
      .op (some 26) (.bin .eql (.t 25) (.c (.n .i64 3))),
      .op (some 27) (.mov (.t 26)),
      .br 27 true [.op (some 28) (.fad 1 (.t 1)), .op (some 29) (.load 1 false (.t 28)), .op (some 30) (.len false (.t 29)), .op (some 31) (.bin .leq (.t 30) (.c (.n .i64 40)))] [28, 29, 30, 31] 32 31,
      .op (some 33) (.mov (.t 32)),
      .br 33 true [.op (some 34) (.fad 1 (.t 1)), .op (some 35) (.load 1 false (.t 34)), .op (some 36) (.call (.c (.f 109 [])) [.t 35, .c (.f 110 [])]), .op (some 37) (.un .not (.t 36))] [34, 35, 36, 37] 38 37,
      .op (some 2) (.mov (.t 38))])
    (.ret)
def τ_impl_isHouse : Nat → Option GT := fun _ => none
def B_impl_isHouse : F2 := ⟨39, 1, [.t 2], τ_impl_isHouse,
    .seq (.reg .reg [.op (some 1) (.box (.t 0)),
      .op (some 2) (.mov (.c (.b false)))])
    (.seq (.seq (.reg .reg [.op (some 5) (.fad 0 (.t 1)),
      .op (some 6) (.load 1 false (.t 5)),
      .op (some 7) (.len false (.t 6)),
      .op (some 8) (.mov (.c (.n .i64 0)))])
    (.block 0 (.loop [1, 6, 7, 8] [] [1] c_impl_isHouse_1)))
    (c_impl_isHouse_2))⟩
theorem B_impl_isHouse_ok : checkFn Try.prog Try.f90 B_impl_isHouse.toA = true := by kernel_rfl
theorem B_impl_isHouse_wf : B_impl_isHouse.body.wf = true := by kernel_rfl
theorem okFn_impl_isHouse : okFn Try.prog 90 = true := by kernel_rfl
def impl_isHouse_l1s (r0 : Int → Option Bool) (k0_0 : Option Bool) (N : Nat) (pv6_1 : List DKeeper) (pv7_1 : Int) (v8_1 : Int) (pb1_1 : List DKeeper) (pb1_1_2 : List DLetter) : Option Bool :=
  bif (ilt v8_1 pv7_1) then
    let x1 : DKeeper := (pv6_1.getD (v8_1.toNat) dKeeper)
    chk (inb v8_1 (pv6_1.length)) <|
    chk (P_impl_isKeeper N x1) <|
    bif ((!(G_impl_isKeeper N x1)) || (!ieq x1.1 v8_1)) then
      some false
    else
      r0 (w64 (v8_1 + (1 : Int)))
  else
    k0_0
theorem impl_isHouse_l1s_run (N : Nat) (C0 : Fr2 → Hp → Option Bool) (K0 : Option Nat → Fr2 → Hp → Option Bool) (pv6_1 : List DKeeper) (pv7_1 : Int) (v8_1 : Int) (pb1_1 : List DKeeper) (pb1_1_2 : List DLetter) :
    rcode (O_impl_isHouse N) τ_impl_isHouse N fin_impl_isHouse c_impl_isHouse_1 [(1, .p 1 0 0), (6, .q tKeeper pv6_1), (7, .n .i64 pv7_1), (8, .n .i64 v8_1)] ⟨2, [(1, .un 2 [[.q tKeeper pb1_1, .q tLetter pb1_1_2]])]⟩ (roundK [1, 6, 7, 8] [] [1] C0 K0) = impl_isHouse_l1s (fun v8_1 => C0 [(1, .p 1 0 0), (6, .q tKeeper pv6_1), (7, .n .i64 pv7_1), (8, .n .i64 v8_1)] ⟨2, [(1, .un 2 [[.q tKeeper pb1_1, .q tLetter pb1_1_2]])]⟩) (K0 (some 0) [(1, .p 1 0 0)] ⟨2, [(1, .un 2 [[.q tKeeper pb1_1, .q tLetter pb1_1_2]])]⟩) N pv6_1 pv7_1 v8_1 pb1_1 pb1_1_2 := by kernel_rfl
def impl_isHouse_x1_0 (N : Nat) (pb1_1 : List DKeeper) (pb1_1_2 : List DLetter) : Option Bool :=
  chk ((P_slices_ContainsFunc_Letter_impl_isHouse_c1 N pb1_1_2 ()) || (!((ieq ((pb1_1.length) : Int) (3 : Int)) && (ile ((pb1_1_2.length) : Int) (40 : Int))))) <|
  some (((ieq ((pb1_1.length) : Int) (3 : Int)) && (ile ((pb1_1_2.length) : Int) (40 : Int))) && (!(G_slices_ContainsFunc_Letter_impl_isHouse_c1 N pb1_1_2 ())))
theorem impl_isHouse_x1_0_run (N : Nat) (pb1_1 : List DKeeper) (pb1_1_2 : List DLetter) :
    (blockK 0 (seqK' (fun fr H K => rcode (O_impl_isHouse N) τ_impl_isHouse N fin_impl_isHouse c_impl_isHouse_2 fr H K) (finK R_impl_isHouse [.t 2]))) (some 0) [(1, .p 1 0 0)] ⟨2, [(1, .un 2 [[.q tKeeper pb1_1, .q tLetter pb1_1_2]])]⟩ = impl_isHouse_x1_0 N pb1_1 pb1_1_2 := by kernel_rfl
def impl_isHouse_l1 (k0_0 : Option Bool) (N : Nat) (pv6_1 : List DKeeper) (pv7_1 : Int) (pb1_1 : List DKeeper) (pb1_1_2 : List DLetter) : Nat → Int → Option Bool
  | 0, _ => none
  | n + 1, v8_1 => impl_isHouse_l1s (impl_isHouse_l1 k0_0 N pv6_1 pv7_1 pb1_1 pb1_1_2 n) k0_0 N pv6_1 pv7_1 v8_1 pb1_1 pb1_1_2
def impl_isHouse_h1 (N : Nat) (pv6_1 : List DKeeper) (pv7_1 : Int) (v8_1 : Int) (pb1_1 : List DKeeper) (pb1_1_2 : List DLetter) : Option Bool :=
  impl_isHouse_l1 (impl_isHouse_x1_0 N pb1_1 pb1_1_2) N pv6_1 pv7_1 pb1_1 pb1_1_2 N v8_1
theorem impl_isHouse_l1_run (N : Nat)  (K : Option Nat → Fr2 → Hp → Option Bool) (pv6_1 : List DKeeper) (pv7_1 : Int) (pb1_1 : List DKeeper) (pb1_1_2 : List DLetter) : ∀ (n : Nat) (v8_1 : Int),
    rloop (fun fr H K => rcode (O_impl_isHouse N) τ_impl_isHouse N fin_impl_isHouse c_impl_isHouse_1 fr H K) [1, 6, 7, 8] [] [1] K n [(1, .p 1 0 0), (6, .q tKeeper pv6_1), (7, .n .i64 pv7_1), (8, .n .i64 v8_1)] ⟨2, [(1, .un 2 [[.q tKeeper pb1_1, .q tLetter pb1_1_2]])]⟩ = impl_isHouse_l1 (K (some 0) [(1, .p 1 0 0)] ⟨2, [(1, .un 2 [[.q tKeeper pb1_1, .q tLetter pb1_1_2]])]⟩) N pv6_1 pv7_1 pb1_1 pb1_1_2 n v8_1 := by
  intro n
  induction n with
  | zero => intro v8_1; kernel_rfl
  | succ n ih => intro v8_1; exact (impl_isHouse_l1s_run N (rloop (fun fr H K => rcode (O_impl_isHouse N) τ_impl_isHouse N fin_impl_isHouse c_impl_isHouse_1 fr H K) [1, 6, 7, 8] [] [1] K n) K pv6_1 pv7_1 v8_1 pb1_1 pb1_1_2).trans (congrArg (fun r => impl_isHouse_l1s r (K (some 0) [(1, .p 1 0 0)] ⟨2, [(1, .un 2 [[.q tKeeper pb1_1, .q tLetter pb1_1_2]])]⟩) N pv6_1 pv7_1 v8_1 pb1_1 pb1_1_2) (funext fun v8_1 => ih v8_1))
theorem impl_isHouse_h1_run (N : Nat) (pv6_1 : List DKeeper) (pv7_1 : Int) (v8_1 : Int) (pb1_1 : List DKeeper) (pb1_1_2 : List DLetter) : rloop (fun fr H K => rcode (O_impl_isHouse N) τ_impl_isHouse N fin_impl_isHouse c_impl_isHouse_1 fr H K) [1, 6, 7, 8] [] [1] (blockK 0 (seqK' (fun fr H K => rcode (O_impl_isHouse N) τ_impl_isHouse N fin_impl_isHouse c_impl_isHouse_2 fr H K) (finK R_impl_isHouse [.t 2]))) N [(1, .p 1 0 0), (6, .q tKeeper pv6_1), (7, .n .i64 pv7_1), (8, .n .i64 v8_1)] ⟨2, [(1, .un 2 [[.q tKeeper pb1_1, .q tLetter pb1_1_2]])]⟩ = impl_isHouse_h1 N pv6_1 pv7_1 v8_1 pb1_1 pb1_1_2 :=
  ((impl_isHouse_l1_run N (blockK 0 (seqK' (fun fr H K => rcode (O_impl_isHouse N) τ_impl_isHouse N fin_impl_isHouse c_impl_isHouse_2 fr H K) (finK R_impl_isHouse [.t 2]))) pv6_1 pv7_1 pb1_1 pb1_1_2 N v8_1)).trans (congrArg (fun h => impl_isHouse_l1 h N pv6_1 pv7_1 pb1_1 pb1_1_2 N v8_1) (impl_isHouse_x1_0_run N pb1_1 pb1_1_2))
def F_impl_isHouseR (N : Nat) (impl_isHouse_h1 : List DKeeper → Int → Int → List DKeeper → List DLetter → Option Bool) (a0 : DHouse) : Option Bool :=
  impl_isHouse_h1 a0.1 ((a0.1.length) : Int) (0 : Int) a0.1 a0.2
def F_impl_isHouse (N : Nat) (a0 : DHouse) : Option Bool := F_impl_isHouseR N (impl_isHouse_h1 N) a0
theorem F_impl_isHouse_raw (N : Nat) (a0 : DHouse) :
    runF (O_impl_isHouse N) N B_impl_isHouse R_impl_isHouse (vals T_impl_isHouse a0) = F_impl_isHouseR N (fun pv6_1 pv7_1 v8_1 pb1_1 pb1_1_2 => rloop (fun fr H K => rcode (O_impl_isHouse N) τ_impl_isHouse N fin_impl_isHouse c_impl_isHouse_1 fr H K) [1, 6, 7, 8] [] [1] (blockK 0 (seqK' (fun fr H K => rcode (O_impl_isHouse N) τ_impl_isHouse N fin_impl_isHouse c_impl_isHouse_2 fr H K) (finK R_impl_isHouse [.t 2]))) N [(1, .p 1 0 0), (6, .q tKeeper pv6_1), (7, .n .i64 pv7_1), (8, .n .i64 v8_1)] ⟨2, [(1, .un 2 [[.q tKeeper pb1_1, .q tLetter pb1_1_2]])]⟩) a0 := by kernel_rfl
theorem F_impl_isHouse_run (N : Nat) (a0 : DHouse) :
    runF (O_impl_isHouse N) N B_impl_isHouse R_impl_isHouse (vals T_impl_isHouse a0) = F_impl_isHouse N a0 :=
  (F_impl_isHouse_raw N a0).trans (congrArg (fun h => F_impl_isHouseR N h a0) (funext fun pv6_1 => funext fun pv7_1 => funext fun v8_1 => funext fun pb1_1 => funext fun pb1_1_2 => impl_isHouse_h1_run N pv6_1 pv7_1 v8_1 pb1_1 pb1_1_2))
def P_impl_isHouse (N : Nat) (a0 : DHouse) : Bool := lock (F_impl_isHouse N a0).isSome
def G_impl_isHouse (N : Nat) (a0 : DHouse) : Bool := lock ((F_impl_isHouse N a0).getD false)
theorem FG_impl_isHouse {N : Nat} (a0 : DHouse) (h : P_impl_isHouse N a0 = true) : F_impl_isHouse N a0 = some (G_impl_isHouse N a0) := by unfold P_impl_isHouse at h; unfold G_impl_isHouse; rw [lock_eq] at h ⊢; exact some_of_isSome h
theorem PG_impl_isHouse {N : Nat} {a0 : DHouse} {v : Bool} (h : F_impl_isHouse N a0 = some v) : P_impl_isHouse N a0 = true ∧ G_impl_isHouse N a0 = v := by unfold P_impl_isHouse G_impl_isHouse; rw [h, lock_eq, lock_eq]; exact ⟨rfl, rfl⟩
def o_impl_isHouse (N : Nat) : List V → Bool × V := mkO T_impl_isHouse R_impl_isHouse (fun (x : DHouse) => P_impl_isHouse N x) (fun (x : DHouse) => G_impl_isHouse N x)
theorem impl_isHouse_entry (N : Nat) : Entry Try.prog 90 (o_impl_isHouse N) := Entry.of fun (x : DHouse) h =>
  Pf.of_run hm Try.func90 okFn_impl_isHouse B_impl_isHouse_ok B_impl_isHouse_wf (O_impl_isHouse_ok N) rfl ((F_impl_isHouse_run N x).trans (FG_impl_isHouse x h))
/-! loop.example/g00526/impl.HouseOk -/
abbrev T_impl_HouseOk : List GT := [tHouse]
abbrev R_impl_HouseOk : List GT := [.b]
def fin_impl_HouseOk : Fr2 → Hp → Option Bool := finF R_impl_HouseOk [.t 2]
def O_impl_HouseOk (N : Nat) : Orac := orc [(90, o_impl_isHouse N)] []
theorem O_impl_HouseOk_ok (N : Nat) : OrcOk Try.prog (O_impl_HouseOk N) := OrcOk.of ⟨impl_isHouse_entry N, trivial⟩ trivial
def τ_impl_HouseOk : Nat → Option GT := fun _ => none
def B_impl_HouseOk : F2 := ⟨5, 1, [.t 2], τ_impl_HouseOk,
    .seq (.reg .reg [.op (some 1) (.box (.t 0)),
      .op (some 2) (.mov (.c (.b false)))])
    (.seq (.reg .reg [.op (some 3) (.load 2 true (.t 1)),
      .op (some 4) (.call (.c (.f 90 [])) [.t 3]),
      .op (some 2) (.mov (.t 4))])
    (.ret))⟩
theorem B_impl_HouseOk_ok : checkFn Try.prog Try.f43 B_impl_HouseOk.toA = true := by kernel_rfl
theorem B_impl_HouseOk_wf : B_impl_HouseOk.body.wf = true := by kernel_rfl
theorem okFn_impl_HouseOk : okFn Try.prog 43 = true := by kernel_rfl
def F_impl_HouseOk (N : Nat) (a0 : DHouse) : Option Bool :=
  chk (P_impl_isHouse N a0) <|
  some (G_impl_isHouse N a0)
theorem F_impl_HouseOk_run (N : Nat) (a0 : DHouse) :
    runF (O_impl_HouseOk N) N B_impl_HouseOk R_impl_HouseOk (vals T_impl_HouseOk a0) = F_impl_HouseOk N a0 := by kernel_rfl
def P_impl_HouseOk (N : Nat) (a0 : DHouse) : Bool := lock (F_impl_HouseOk N a0).isSome
def G_impl_HouseOk (N : Nat) (a0 : DHouse) : Bool := lock ((F_impl_HouseOk N a0).getD false)
theorem FG_impl_HouseOk {N : Nat} (a0 : DHouse) (h : P_impl_HouseOk N a0 = true) : F_impl_HouseOk N a0 = some (G_impl_HouseOk N a0) := by unfold P_impl_HouseOk at h; unfold G_impl_HouseOk; rw [lock_eq] at h ⊢; exact some_of_isSome h
theorem PG_impl_HouseOk {N : Nat} {a0 : DHouse} {v : Bool} (h : F_impl_HouseOk N a0 = some v) : P_impl_HouseOk N a0 = true ∧ G_impl_HouseOk N a0 = v := by unfold P_impl_HouseOk G_impl_HouseOk; rw [h, lock_eq, lock_eq]; exact ⟨rfl, rfl⟩
def o_impl_HouseOk (N : Nat) : List V → Bool × V := mkO T_impl_HouseOk R_impl_HouseOk (fun (x : DHouse) => P_impl_HouseOk N x) (fun (x : DHouse) => G_impl_HouseOk N x)
theorem impl_HouseOk_entry (N : Nat) : Entry Try.prog 43 (o_impl_HouseOk N) := Entry.of fun (x : DHouse) h =>
  Pf.of_run hm Try.func43 okFn_impl_HouseOk B_impl_HouseOk_ok B_impl_HouseOk_wf (O_impl_HouseOk_ok N) rfl ((F_impl_HouseOk_run N x).trans (FG_impl_HouseOk x h))
/-! loop.example/g00526/laws.eqItem -/
abbrev T_laws_eqItem : List GT := [tItem, tItem]
abbrev R_laws_eqItem : List GT := [.b]
def fin_laws_eqItem : Fr2 → Hp → Option Bool := finF R_laws_eqItem [.t 4]
def O_laws_eqItem (N : Nat) : Orac := orc [] []
theorem O_laws_eqItem_ok (N : Nat) : OrcOk Try.prog (O_laws_eqItem N) := OrcOk.of trivial trivial
def τ_laws_eqItem : Nat → Option GT := fun _ => none
def B_laws_eqItem : F2 := ⟨15, 2, [.t 4], τ_laws_eqItem,
    .seq (.reg .reg [.op (some 2) (.box (.t 0)),
      .op (some 3) (.box (.t 1)),
      .op (some 4) (.mov (.c (.b false)))])
    (.seq (.seq (.reg .reg [.op (some 5) (.fad 0 (.t 2)),
      .op (some 6) (.load 1 false (.t 5)),
      .op (some 7) (.fad 0 (.t 3)),
      .op (some 8) (.load 1 false (.t 7)),
      .op (some 9) (.bin .neq (.t 6) (.t 8))])
    (.cond (.t 9) (.seq (.reg .reg [.op (some 4) (.mov (.c (.b false)))])
    (.ret))
    (.skip)))
    (.seq (.seq (.reg .reg [.op (some 10) (.fad 1 (.t 2)),
      .op (some 11) (.load 1 false (.t 10)),
      .op (some 12) (.fad 1 (.t 3)),
      .op (some 13) (.load 1 false (.t 12)),
      .op (some 14) (.bin .neq (.t 11) (.t 13))])
    (.cond (.t 14) (.seq (.reg .reg [.op (some 4) (.mov (.c (.b false)))])
    (.ret))
    (.skip)))
    (.seq (.reg .reg [.op (some 4) (.mov (.c (.b true)))])
    (.ret))))⟩
theorem B_laws_eqItem_ok : checkFn Try.prog Try.f104 B_laws_eqItem.toA = true := by kernel_rfl
theorem B_laws_eqItem_wf : B_laws_eqItem.body.wf = true := by kernel_rfl
theorem okFn_laws_eqItem : okFn Try.prog 104 = true := by kernel_rfl
def F_laws_eqItem (N : Nat) (a0 : DItem) (a1 : DItem) : Option Bool :=
  bif (!ieq a0.1 a1.1) then
    some false
  else
    bif (!decide (a0.2 = a1.2)) then
      some false
    else
      some true
theorem F_laws_eqItem_run (N : Nat) (a0 : DItem) (a1 : DItem) :
    runF (O_laws_eqItem N) N B_laws_eqItem R_laws_eqItem (vals T_laws_eqItem (a0, a1)) = F_laws_eqItem N a0 a1 := by kernel_rfl
def G_laws_eqItem (a0 : DItem) (a1 : DItem) : Bool :=
  bif (!ieq a0.1 a1.1) then
    false
  else
    bif (!decide (a0.2 = a1.2)) then
      false
    else
      true
theorem FG_laws_eqItem (N : Nat) (a0 : DItem) (a1 : DItem) : F_laws_eqItem N a0 a1 = some (G_laws_eqItem a0 a1) := by
  first | rfl | (simp only [F_laws_eqItem, G_laws_eqItem, cond_some]; done) | (unfold F_laws_eqItem G_laws_eqItem; simp only [cond_some]; done)
def o_laws_eqItem : List V → Bool × V := mkO T_laws_eqItem R_laws_eqItem (fun (x : (DItem × DItem)) => true) (fun (x : (DItem × DItem)) => G_laws_eqItem x.1 x.2)
theorem laws_eqItem_entry : Entry Try.prog 104 o_laws_eqItem := Entry.of fun (x : (DItem × DItem)) _ =>
  Pf.of_run hm Try.func104 okFn_laws_eqItem B_laws_eqItem_ok B_laws_eqItem_wf (O_laws_eqItem_ok 0) rfl ((F_laws_eqItem_run 0 x.1 x.2).trans (FG_laws_eqItem 0 x.1 x.2))
/-! loop.example/g00526/laws.eqItemS -/
abbrev T_laws_eqItemS : List GT := [(.sl tItem), (.sl tItem)]
abbrev R_laws_eqItemS : List GT := [.b]
def fin_laws_eqItemS : Fr2 → Hp → Option Bool := finF R_laws_eqItemS [.t 4]
def O_laws_eqItemS (N : Nat) : Orac := orc [(104, o_laws_eqItem)] []
theorem O_laws_eqItemS_ok (N : Nat) : OrcOk Try.prog (O_laws_eqItemS N) := OrcOk.of ⟨laws_eqItem_entry, trivial⟩ trivial
def c_laws_eqItemS_1 : C2 :=
    .seq (.seq (.reg .reg [.op (some 11) (.mov (.t 5)),
      .op (some 12) (.mov (.t 0)),
      .op (some 13) (.len false (.t 12)),
      .op (some 14) (.bin .lss (.t 11) (.t 13))])
    (.cond (.t 14) (.skip)
    (.exit 0)))
    (.seq (.block 1 (.seq (.reg (.dlin 8 2) [.op (some 17) (.mov (.t 0)),
      .op (some 18) (.mov (.t 5)),
      .op (some 19) (.iad 2 (.t 17) (.t 18)),
      .op (some 20) (.load 2 true (.t 19)),
      .op (some 21) (.mov (.t 1)),
      .op (some 22) (.mov (.t 5)),
      .op (some 23) (.iad 2 (.t 21) (.t 22)),
      .op (some 24) (.load 2 true (.t 23)),
      .op (some 25) (.call (.c (.f 104 [])) [.t 20, .t 24]),
      .op (some 26) (.un .not (.t 25))])
    (.cond (.t 26) (.seq (.reg .reg [.op (some 4) (.mov (.c (.b false)))])
    (.ret))
    (.skip))))
    (.reg .reg [.op (some 15) (.mov (.t 5)),
      .op (some 16) (.bin .add (.t 15) (.c (.n .i64 1))),
      .op (some 5) (.mov (.t 16))]))
def c_laws_eqItemS_2 : C2 :=
    .seq (.reg .reg [.op (some 4) (.mov (.c (.b true)))])
    (.ret)
def τ_laws_eqItemS : Nat → Option GT := fun _ => none
def B_laws_eqItemS : F2 := ⟨27, 2, [.t 4], τ_laws_eqItemS,
    .seq (.reg .reg [.op (some 4) (.mov (.c (.b false)))])
    (.seq (.seq (.reg .reg [.op (some 6) (.mov (.t 0)),
      .op (some 7) (.len false (.t 6)),
      .op (some 8) (.mov (.t 1)),
      .op (some 9) (.len false (.t 8)),
      .op (some 10) (.bin .neq (.t 7) (.t 9))])
    (.cond (.t 10) (.seq (.reg .reg [.op (some 4) (.mov (.c (.b false)))])
    (.ret))
    (.skip)))
    (.seq (.seq (.reg .reg [.op (some 5) (.mov (.c (.n .i64 0)))])
    (.block 0 (.loop [0, 1, 5] [] [] c_laws_eqItemS_1)))
    (c_laws_eqItemS_2)))⟩
theorem B_laws_eqItemS_ok : checkFn Try.prog Try.f68 B_laws_eqItemS.toA = true := by kernel_rfl
theorem B_laws_eqItemS_wf : B_laws_eqItemS.body.wf = true := by kernel_rfl
theorem okFn_laws_eqItemS : okFn Try.prog 68 = true := by kernel_rfl
def laws_eqItemS_l1s (r0 : Int → Option Bool) (k0_0 : Option Bool) (N : Nat) (a0 : List DItem) (a1 : List DItem) (v5_1 : Int) : Option Bool :=
  bif (ilt v5_1 ((a0.length) : Int)) then
    let x1 : DItem := (a0.getD (v5_1.toNat) dItem)
    let x2 : DItem := (a1.getD (v5_1.toNat) dItem)
    chk (inb v5_1 (a0.length)) <|
    chk (inb v5_1 (a1.length)) <|
    bif (!(G_laws_eqItem x1 x2)) then
      some false
    else
      r0 (w64 (v5_1 + (1 : Int)))
  else
    k0_0
theorem laws_eqItemS_l1s_run (N : Nat) (C0 : Fr2 → Hp → Option Bool) (K0 : Option Nat → Fr2 → Hp → Option Bool) (a0 : List DItem) (a1 : List DItem) (v5_1 : Int) :
    rcode (O_laws_eqItemS N) τ_laws_eqItemS N fin_laws_eqItemS c_laws_eqItemS_1 [(0, .q tItem a0), (1, .q tItem a1), (5, .n .i64 v5_1)] ⟨1, []⟩ (roundK [0, 1, 5] [] [] C0 K0) = laws_eqItemS_l1s (fun v5_1 => C0 [(0, .q tItem a0), (1, .q tItem a1), (5, .n .i64 v5_1)] ⟨1, []⟩) (K0 (some 0) [] ⟨1, []⟩) N a0 a1 v5_1 := by kernel_rfl
def laws_eqItemS_x1_0 (N : Nat) : Option Bool :=
  some true
theorem laws_eqItemS_x1_0_run (N : Nat)  :
    (blockK 0 (seqK' (fun fr H K => rcode (O_laws_eqItemS N) τ_laws_eqItemS N fin_laws_eqItemS c_laws_eqItemS_2 fr H K) (finK R_laws_eqItemS [.t 4]))) (some 0) [] ⟨1, []⟩ = laws_eqItemS_x1_0 N := by kernel_rfl
def laws_eqItemS_l1 (k0_0 : Option Bool) (N : Nat) (a0 : List DItem) (a1 : List DItem) : Nat → Int → Option Bool
  | 0, _ => none
  | n + 1, v5_1 => laws_eqItemS_l1s (laws_eqItemS_l1 k0_0 N a0 a1 n) k0_0 N a0 a1 v5_1
def laws_eqItemS_h1 (N : Nat) (a0 : List DItem) (a1 : List DItem) (v5_1 : Int) : Option Bool :=
  laws_eqItemS_l1 (laws_eqItemS_x1_0 N) N a0 a1 N v5_1
theorem laws_eqItemS_l1_run (N : Nat)  (K : Option Nat → Fr2 → Hp → Option Bool) (a0 : List DItem) (a1 : List DItem) : ∀ (n : Nat) (v5_1 : Int),
    rloop (fun fr H K => rcode (O_laws_eqItemS N) τ_laws_eqItemS N fin_laws_eqItemS c_laws_eqItemS_1 fr H K) [0, 1, 5] [] [] K n [(0, .q tItem a0), (1, .q tItem a1), (5, .n .i64 v5_1)] ⟨1, []⟩ = laws_eqItemS_l1 (K (some 0) [] ⟨1, []⟩) N a0 a1 n v5_1 := by
  intro n
  induction n with
  | zero => intro v5_1; kernel_rfl
  | succ n ih => intro v5_1; exact (laws_eqItemS_l1s_run N (rloop (fun fr H K => rcode (O_laws_eqItemS N) τ_laws_eqItemS N fin_laws_eqItemS c_laws_eqItemS_1 fr H K) [0, 1, 5] [] [] K n) K a0 a1 v5_1).trans (congrArg (fun r => laws_eqItemS_l1s r (K (some 0) [] ⟨1, []⟩) N a0 a1 v5_1) (funext fun v5_1 => ih v5_1))
theorem laws_eqItemS_h1_run (N : Nat) (a0 : List DItem) (a1 : List DItem) (v5_1 : Int) : rloop (fun fr H K => rcode (O_laws_eqItemS N) τ_laws_eqItemS N fin_laws_eqItemS c_laws_eqItemS_1 fr H K) [0, 1, 5] [] [] (blockK 0 (seqK' (fun fr H K => rcode (O_laws_eqItemS N) τ_laws_eqItemS N fin_laws_eqItemS c_laws_eqItemS_2 fr H K) (finK R_laws_eqItemS [.t 4]))) N [(0, .q tItem a0), (1, .q tItem a1), (5, .n .i64 v5_1)] ⟨1, []⟩ = laws_eqItemS_h1 N a0 a1 v5_1 :=
  ((laws_eqItemS_l1_run N (blockK 0 (seqK' (fun fr H K => rcode (O_laws_eqItemS N) τ_laws_eqItemS N fin_laws_eqItemS c_laws_eqItemS_2 fr H K) (finK R_laws_eqItemS [.t 4]))) a0 a1 N v5_1)).trans (congrArg (fun h => laws_eqItemS_l1 h N a0 a1 N v5_1) (laws_eqItemS_x1_0_run N ))
def F_laws_eqItemSR (N : Nat) (laws_eqItemS_h1 : List DItem → List DItem → Int → Option Bool) (a0 : List DItem) (a1 : List DItem) : Option Bool :=
  bif (!ieq ((a0.length) : Int) ((a1.length) : Int)) then
    some false
  else
    laws_eqItemS_h1 a0 a1 (0 : Int)
def F_laws_eqItemS (N : Nat) (a0 : List DItem) (a1 : List DItem) : Option Bool := F_laws_eqItemSR N (laws_eqItemS_h1 N) a0 a1
theorem F_laws_eqItemS_raw (N : Nat) (a0 : List DItem) (a1 : List DItem) :
    runF (O_laws_eqItemS N) N B_laws_eqItemS R_laws_eqItemS (vals T_laws_eqItemS (a0, a1)) = F_laws_eqItemSR N (fun a0 a1 v5_1 => rloop (fun fr H K => rcode (O_laws_eqItemS N) τ_laws_eqItemS N fin_laws_eqItemS c_laws_eqItemS_1 fr H K) [0, 1, 5] [] [] (blockK 0 (seqK' (fun fr H K => rcode (O_laws_eqItemS N) τ_laws_eqItemS N fin_laws_eqItemS c_laws_eqItemS_2 fr H K) (finK R_laws_eqItemS [.t 4]))) N [(0, .q tItem a0), (1, .q tItem a1), (5, .n .i64 v5_1)] ⟨1, []⟩) a0 a1 := by kernel_rfl
theorem F_laws_eqItemS_run (N : Nat) (a0 : List DItem) (a1 : List DItem) :
    runF (O_laws_eqItemS N) N B_laws_eqItemS R_laws_eqItemS (vals T_laws_eqItemS (a0, a1)) = F_laws_eqItemS N a0 a1 :=
  (F_laws_eqItemS_raw N a0 a1).trans (congrArg (fun h => F_laws_eqItemSR N h a0 a1) (funext fun a0 => funext fun a1 => funext fun v5_1 => laws_eqItemS_h1_run N a0 a1 v5_1))
def P_laws_eqItemS (N : Nat) (a0 : List DItem) (a1 : List DItem) : Bool := lock (F_laws_eqItemS N a0 a1).isSome
def G_laws_eqItemS (N : Nat) (a0 : List DItem) (a1 : List DItem) : Bool := lock ((F_laws_eqItemS N a0 a1).getD false)
theorem FG_laws_eqItemS {N : Nat} (a0 : List DItem) (a1 : List DItem) (h : P_laws_eqItemS N a0 a1 = true) : F_laws_eqItemS N a0 a1 = some (G_laws_eqItemS N a0 a1) := by unfold P_laws_eqItemS at h; unfold G_laws_eqItemS; rw [lock_eq] at h ⊢; exact some_of_isSome h
theorem PG_laws_eqItemS {N : Nat} {a0 : List DItem} {a1 : List DItem} {v : Bool} (h : F_laws_eqItemS N a0 a1 = some v) : P_laws_eqItemS N a0 a1 = true ∧ G_laws_eqItemS N a0 a1 = v := by unfold P_laws_eqItemS G_laws_eqItemS; rw [h, lock_eq, lock_eq]; exact ⟨rfl, rfl⟩
def o_laws_eqItemS (N : Nat) : List V → Bool × V := mkO T_laws_eqItemS R_laws_eqItemS (fun (x : (List DItem × List DItem)) => P_laws_eqItemS N x.1 x.2) (fun (x : (List DItem × List DItem)) => G_laws_eqItemS N x.1 x.2)
theorem laws_eqItemS_entry (N : Nat) : Entry Try.prog 68 (o_laws_eqItemS N) := Entry.of fun (x : (List DItem × List DItem)) h =>
  Pf.of_run hm Try.func68 okFn_laws_eqItemS B_laws_eqItemS_ok B_laws_eqItemS_wf (O_laws_eqItemS_ok N) rfl ((F_laws_eqItemS_run N x.1 x.2).trans (FG_laws_eqItemS x.1 x.2 h))
/-! loop.example/g00526/laws.eqInt64S -/
abbrev T_laws_eqInt64S : List GT := [(.sl (.i .i64)), (.sl (.i .i64))]
abbrev R_laws_eqInt64S : List GT := [.b]
def fin_laws_eqInt64S : Fr2 → Hp → Option Bool := finF R_laws_eqInt64S [.t 4]
def O_laws_eqInt64S (N : Nat) : Orac := orc [] []
theorem O_laws_eqInt64S_ok (N : Nat) : OrcOk Try.prog (O_laws_eqInt64S N) := OrcOk.of trivial trivial
def c_laws_eqInt64S_1 : C2 :=
    .seq (.seq (.reg .reg [.op (some 11) (.mov (.t 5)),
      .op (some 12) (.mov (.t 0)),
      .op (some 13) (.len false (.t 12)),
      .op (some 14) (.bin .lss (.t 11) (.t 13))])
    (.cond (.t 14) (.skip)
    (.exit 0)))
    (.seq (.block 1 (.seq (.reg (.dline 9) [.op (some 17) (.mov (.t 0)),
      .op (some 18) (.mov (.t 5)),
      .op (some 19) (.iad 1 (.t 17) (.t 18)),
      .op (some 20) (.load 1 false (.t 19)),
      .op (some 21) (.mov (.t 1)),
      .op (some 22) (.mov (.t 5)),
      .op (some 23) (.iad 1 (.t 21) (.t 22)),
      .op (some 24) (.load 1 false (.t 23)),
      .op (some 25) (.bin .neq (.t 20) (.t 24))])
    (.cond (.t 25) (.seq (.reg .reg [.op (some 4) (.mov (.c (.b false)))])
    (.ret))
    (.skip))))
    (.reg .reg [.op (some 15) (.mov (.t 5)),
      .op (some 16) (.bin .add (.t 15) (.c (.n .i64 1))),
      .op (some 5) (.mov (.t 16))]))
def c_laws_eqInt64S_2 : C2 :=
    .seq (.reg .reg [.op (some 4) (.mov (.c (.b true)))])
    (.ret)
def τ_laws_eqInt64S : Nat → Option GT := fun _ => none
def B_laws_eqInt64S : F2 := ⟨26, 2, [.t 4], τ_laws_eqInt64S,
    .seq (.reg .reg [.op (some 4) (.mov (.c (.b false)))])
    (.seq (.seq (.reg .reg [.op (some 6) (.mov (.t 0)),
      .op (some 7) (.len false (.t 6)),
      .op (some 8) (.mov (.t 1)),
      .op (some 9) (.len false (.t 8)),
      .op (some 10) (.bin .neq (.t 7) (.t 9))])
    (.cond (.t 10) (.seq (.reg .reg [.op (some 4) (.mov (.c (.b false)))])
    (.ret))
    (.skip)))
    (.seq (.seq (.reg .reg [.op (some 5) (.mov (.c (.n .i64 0)))])
    (.block 0 (.loop [0, 1, 5] [] [] c_laws_eqInt64S_1)))
    (c_laws_eqInt64S_2)))⟩
theorem B_laws_eqInt64S_ok : checkFn Try.prog Try.f53 B_laws_eqInt64S.toA = true := by kernel_rfl
theorem B_laws_eqInt64S_wf : B_laws_eqInt64S.body.wf = true := by kernel_rfl
theorem okFn_laws_eqInt64S : okFn Try.prog 53 = true := by kernel_rfl
def laws_eqInt64S_l1s (r0 : Int → Option Bool) (k0_0 : Option Bool) (N : Nat) (a0 : List Int) (a1 : List Int) (v5_1 : Int) : Option Bool :=
  bif (ilt v5_1 ((a0.length) : Int)) then
    let x1 : Int := (a0.getD (v5_1.toNat) (0 : Int))
    let x2 : Int := (a1.getD (v5_1.toNat) (0 : Int))
    chk (inb v5_1 (a0.length)) <|
    chk (inb v5_1 (a1.length)) <|
    bif (!ieq x1 x2) then
      some false
    else
      r0 (w64 (v5_1 + (1 : Int)))
  else
    k0_0
theorem laws_eqInt64S_l1s_run (N : Nat) (C0 : Fr2 → Hp → Option Bool) (K0 : Option Nat → Fr2 → Hp → Option Bool) (a0 : List Int) (a1 : List Int) (v5_1 : Int) :
    rcode (O_laws_eqInt64S N) τ_laws_eqInt64S N fin_laws_eqInt64S c_laws_eqInt64S_1 [(0, .q (.i .i64) a0), (1, .q (.i .i64) a1), (5, .n .i64 v5_1)] ⟨1, []⟩ (roundK [0, 1, 5] [] [] C0 K0) = laws_eqInt64S_l1s (fun v5_1 => C0 [(0, .q (.i .i64) a0), (1, .q (.i .i64) a1), (5, .n .i64 v5_1)] ⟨1, []⟩) (K0 (some 0) [] ⟨1, []⟩) N a0 a1 v5_1 := by kernel_rfl
def laws_eqInt64S_x1_0 (N : Nat) : Option Bool :=
  some true
theorem laws_eqInt64S_x1_0_run (N : Nat)  :
    (blockK 0 (seqK' (fun fr H K => rcode (O_laws_eqInt64S N) τ_laws_eqInt64S N fin_laws_eqInt64S c_laws_eqInt64S_2 fr H K) (finK R_laws_eqInt64S [.t 4]))) (some 0) [] ⟨1, []⟩ = laws_eqInt64S_x1_0 N := by kernel_rfl
def laws_eqInt64S_l1 (k0_0 : Option Bool) (N : Nat) (a0 : List Int) (a1 : List Int) : Nat → Int → Option Bool
  | 0, _ => none
  | n + 1, v5_1 => laws_eqInt64S_l1s (laws_eqInt64S_l1 k0_0 N a0 a1 n) k0_0 N a0 a1 v5_1
def laws_eqInt64S_h1 (N : Nat) (a0 : List Int) (a1 : List Int) (v5_1 : Int) : Option Bool :=
  laws_eqInt64S_l1 (laws_eqInt64S_x1_0 N) N a0 a1 N v5_1
theorem laws_eqInt64S_l1_run (N : Nat)  (K : Option Nat → Fr2 → Hp → Option Bool) (a0 : List Int) (a1 : List Int) : ∀ (n : Nat) (v5_1 : Int),
    rloop (fun fr H K => rcode (O_laws_eqInt64S N) τ_laws_eqInt64S N fin_laws_eqInt64S c_laws_eqInt64S_1 fr H K) [0, 1, 5] [] [] K n [(0, .q (.i .i64) a0), (1, .q (.i .i64) a1), (5, .n .i64 v5_1)] ⟨1, []⟩ = laws_eqInt64S_l1 (K (some 0) [] ⟨1, []⟩) N a0 a1 n v5_1 := by
  intro n
  induction n with
  | zero => intro v5_1; kernel_rfl
  | succ n ih => intro v5_1; exact (laws_eqInt64S_l1s_run N (rloop (fun fr H K => rcode (O_laws_eqInt64S N) τ_laws_eqInt64S N fin_laws_eqInt64S c_laws_eqInt64S_1 fr H K) [0, 1, 5] [] [] K n) K a0 a1 v5_1).trans (congrArg (fun r => laws_eqInt64S_l1s r (K (some 0) [] ⟨1, []⟩) N a0 a1 v5_1) (funext fun v5_1 => ih v5_1))
theorem laws_eqInt64S_h1_run (N : Nat) (a0 : List Int) (a1 : List Int) (v5_1 : Int) : rloop (fun fr H K => rcode (O_laws_eqInt64S N) τ_laws_eqInt64S N fin_laws_eqInt64S c_laws_eqInt64S_1 fr H K) [0, 1, 5] [] [] (blockK 0 (seqK' (fun fr H K => rcode (O_laws_eqInt64S N) τ_laws_eqInt64S N fin_laws_eqInt64S c_laws_eqInt64S_2 fr H K) (finK R_laws_eqInt64S [.t 4]))) N [(0, .q (.i .i64) a0), (1, .q (.i .i64) a1), (5, .n .i64 v5_1)] ⟨1, []⟩ = laws_eqInt64S_h1 N a0 a1 v5_1 :=
  ((laws_eqInt64S_l1_run N (blockK 0 (seqK' (fun fr H K => rcode (O_laws_eqInt64S N) τ_laws_eqInt64S N fin_laws_eqInt64S c_laws_eqInt64S_2 fr H K) (finK R_laws_eqInt64S [.t 4]))) a0 a1 N v5_1)).trans (congrArg (fun h => laws_eqInt64S_l1 h N a0 a1 N v5_1) (laws_eqInt64S_x1_0_run N ))
def F_laws_eqInt64SR (N : Nat) (laws_eqInt64S_h1 : List Int → List Int → Int → Option Bool) (a0 : List Int) (a1 : List Int) : Option Bool :=
  bif (!ieq ((a0.length) : Int) ((a1.length) : Int)) then
    some false
  else
    laws_eqInt64S_h1 a0 a1 (0 : Int)
def F_laws_eqInt64S (N : Nat) (a0 : List Int) (a1 : List Int) : Option Bool := F_laws_eqInt64SR N (laws_eqInt64S_h1 N) a0 a1
theorem F_laws_eqInt64S_raw (N : Nat) (a0 : List Int) (a1 : List Int) :
    runF (O_laws_eqInt64S N) N B_laws_eqInt64S R_laws_eqInt64S (vals T_laws_eqInt64S (a0, a1)) = F_laws_eqInt64SR N (fun a0 a1 v5_1 => rloop (fun fr H K => rcode (O_laws_eqInt64S N) τ_laws_eqInt64S N fin_laws_eqInt64S c_laws_eqInt64S_1 fr H K) [0, 1, 5] [] [] (blockK 0 (seqK' (fun fr H K => rcode (O_laws_eqInt64S N) τ_laws_eqInt64S N fin_laws_eqInt64S c_laws_eqInt64S_2 fr H K) (finK R_laws_eqInt64S [.t 4]))) N [(0, .q (.i .i64) a0), (1, .q (.i .i64) a1), (5, .n .i64 v5_1)] ⟨1, []⟩) a0 a1 := by kernel_rfl
theorem F_laws_eqInt64S_run (N : Nat) (a0 : List Int) (a1 : List Int) :
    runF (O_laws_eqInt64S N) N B_laws_eqInt64S R_laws_eqInt64S (vals T_laws_eqInt64S (a0, a1)) = F_laws_eqInt64S N a0 a1 :=
  (F_laws_eqInt64S_raw N a0 a1).trans (congrArg (fun h => F_laws_eqInt64SR N h a0 a1) (funext fun a0 => funext fun a1 => funext fun v5_1 => laws_eqInt64S_h1_run N a0 a1 v5_1))
def P_laws_eqInt64S (N : Nat) (a0 : List Int) (a1 : List Int) : Bool := lock (F_laws_eqInt64S N a0 a1).isSome
def G_laws_eqInt64S (N : Nat) (a0 : List Int) (a1 : List Int) : Bool := lock ((F_laws_eqInt64S N a0 a1).getD false)
theorem FG_laws_eqInt64S {N : Nat} (a0 : List Int) (a1 : List Int) (h : P_laws_eqInt64S N a0 a1 = true) : F_laws_eqInt64S N a0 a1 = some (G_laws_eqInt64S N a0 a1) := by unfold P_laws_eqInt64S at h; unfold G_laws_eqInt64S; rw [lock_eq] at h ⊢; exact some_of_isSome h
theorem PG_laws_eqInt64S {N : Nat} {a0 : List Int} {a1 : List Int} {v : Bool} (h : F_laws_eqInt64S N a0 a1 = some v) : P_laws_eqInt64S N a0 a1 = true ∧ G_laws_eqInt64S N a0 a1 = v := by unfold P_laws_eqInt64S G_laws_eqInt64S; rw [h, lock_eq, lock_eq]; exact ⟨rfl, rfl⟩
def o_laws_eqInt64S (N : Nat) : List V → Bool × V := mkO T_laws_eqInt64S R_laws_eqInt64S (fun (x : (List Int × List Int)) => P_laws_eqInt64S N x.1 x.2) (fun (x : (List Int × List Int)) => G_laws_eqInt64S N x.1 x.2)
theorem laws_eqInt64S_entry (N : Nat) : Entry Try.prog 53 (o_laws_eqInt64S N) := Entry.of fun (x : (List Int × List Int)) h =>
  Pf.of_run hm Try.func53 okFn_laws_eqInt64S B_laws_eqInt64S_ok B_laws_eqInt64S_wf (O_laws_eqInt64S_ok N) rfl ((F_laws_eqInt64S_run N x.1 x.2).trans (FG_laws_eqInt64S x.1 x.2 h))
/-! loop.example/g00526/laws.eqKeeper -/
abbrev T_laws_eqKeeper : List GT := [tKeeper, tKeeper]
abbrev R_laws_eqKeeper : List GT := [.b]
def fin_laws_eqKeeper : Fr2 → Hp → Option Bool := finF R_laws_eqKeeper [.t 4]
def O_laws_eqKeeper (N : Nat) : Orac := orc [(68, o_laws_eqItemS N), (53, o_laws_eqInt64S N)] []
theorem O_laws_eqKeeper_ok (N : Nat) : OrcOk Try.prog (O_laws_eqKeeper N) := OrcOk.of ⟨laws_eqItemS_entry N, laws_eqInt64S_entry N, trivial⟩ trivial
def τ_laws_eqKeeper : Nat → Option GT := fun _ => none
def B_laws_eqKeeper : F2 := ⟨58, 2, [.t 4], τ_laws_eqKeeper,
    .seq (.reg .reg [.op (some 2) (.box (.t 0)),
      .op (some 3) (.box (.t 1)),
      .op (some 4) (.mov (.c (.b false)))])
    (.seq (.seq (.reg .reg [.op (some 5) (.fad 0 (.t 2)),
      .op (some 6) (.load 1 false (.t 5)),
      .op (some 7) (.fad 0 (.t 3)),
      .op (some 8) (.load 1 false (.t 7)),
      .op (some 9) (.bin .neq (.t 6) (.t 8))])
    (.cond (.t 9) (.seq (.reg .reg [.op (some 4) (.mov (.c (.b false)))])
    (.ret))
    (.skip)))
    (.seq (.seq (.reg .reg [.op (some 10) (.fad 1 (.t 2)),
      .op (some 11) (.load 1 false (.t 10)),
      .op (some 12) (.fad 1 (.t 3)),
      .op (some 13) (.load 1 false (.t 12)),
      .op (some 14) (.bin .neq (.t 11) (.t 13))])
    (.cond (.t 14) (.seq (.reg .reg [.op (some 4) (.mov (.c (.b false)))])
    (.ret))
    (.skip)))
    (.seq (.seq (.reg .reg [.op (some 15) (.fad 2 (.t 2)),
      .op (some 16) (.load 1 false (.t 15)),
      .op (some 17) (.fad 2 (.t 3)),
      .op (some 18) (.load 1 false (.t 17)),
      .op (some 19) (.bin .neq (.t 16) (.t 18))])
    (.cond (.t 19) (.seq (.reg .reg [.op (some 4) (.mov (.c (.b false)))])
    (.ret))
    (.skip)))
    (.seq (.seq (.reg .reg [.op (some 20) (.fad 3 (.t 2)),
      .op (some 21) (.load 1 false (.t 20)),
      .op (some 22) (.fad 3 (.t 3)),
      .op (some 23) (.load 1 false (.t 22)),
      .op (some 24) (.call (.c (.f 68 [])) [.t 21, .t 23]),
      .op (some 25) (.un .not (.t 24))])
    (.cond (.t 25) (.seq (.reg .reg [.op (some 4) (.mov (.c (.b false)))])
    (.ret))
    (.skip)))
    (.seq (.seq (.reg .reg [.op (some 26) (.fad 4 (.t 2)),
      .op (some 27) (.load 1 false (.t 26)),
      .op (some 28) (.fad 4 (.t 3)),
      .op (some 29) (.load 1 false (.t 28)),
      .op (some 30) (.bin .neq (.t 27) (.t 29))])
    (.cond (.t 30) (.seq (.reg .reg [.op (some 4) (.mov (.c (.b false)))])
    (.ret))
    (.skip)))
    (.seq (.seq (.reg .reg [.op (some 31) (.fad 5 (.t 2)),
      .op (some 32) (.load 1 false (.t 31)),
      .op (some 33) (.fad 5 (.t 3)),
      .op (some 34) (.load 1 false (.t 33)),
      .op (some 35) (.bin .neq (.t 32) (.t 34))])
    (.cond (.t 35) (.seq (.reg .reg [.op (some 4) (.mov (.c (.b false)))])
    (.ret))
    (.skip)))
    (.seq (.seq (.reg .reg [.op (some 36) (.fad 6 (.t 2)),
      .op (some 37) (.load 1 false (.t 36)),
      .op (some 38) (.fad 6 (.t 3)),
      .op (some 39) (.load 1 false (.t 38)),
      .op (some 40) (.bin .neq (.t 37) (.t 39))])
    (.cond (.t 40) (.seq (.reg .reg [.op (some 4) (.mov (.c (.b false)))])
    (.ret))
    (.skip)))
    (.seq (.seq (.reg .reg [.op (some 41) (.fad 7 (.t 2)),
      .op (some 42) (.load 1 false (.t 41)),
      .op (some 43) (.fad 7 (.t 3)),
      .op (some 44) (.load 1 false (.t 43)),
      .op (some 45) (.call (.c (.f 53 [])) [.t 42, .t 44]),
      .op (some 46) (.un .not (.t 45))])
    (.cond (.t 46) (.seq (.reg .reg [.op (some 4) (.mov (.c (.b false)))])
    (.ret))
    (.skip)))
    (.seq (.seq (.reg .reg [.op (some 47) (.fad 8 (.t 2)),
      .op (some 48) (.load 1 false (.t 47)),
      .op (some 49) (.fad 8 (.t 3)),
      .op (some 50) (.load 1 false (.t 49)),
      .op (some 51) (.call (.c (.f 53 [])) [.t 48, .t 50]),
      .op (some 52) (.un .not (.t 51))])
    (.cond (.t 52) (.seq (.reg .reg [.op (some 4) (.mov (.c (.b false)))])
    (.ret))
    (.skip)))
    (.seq (.seq (.reg .reg [.op (some 53) (.fad 9 (.t 2)),
      .op (some 54) (.load 1 false (.t 53)),
      .op (some 55) (.fad 9 (.t 3)),
      .op (some 56) (.load 1 false (.t 55)),
      .op (some 57) (.beq true (.t 54) (.t 56))])
    (.cond (.t 57) (.seq (.reg .reg [.op (some 4) (.mov (.c (.b false)))])
    (.ret))
    (.skip)))
    (.seq (.reg .reg [.op (some 4) (.mov (.c (.b true)))])
    (.ret))))))))))))⟩
theorem B_laws_eqKeeper_ok : checkFn Try.prog Try.f18 B_laws_eqKeeper.toA = true := by kernel_rfl
theorem B_laws_eqKeeper_wf : B_laws_eqKeeper.body.wf = true := by kernel_rfl
theorem okFn_laws_eqKeeper : okFn Try.prog 18 = true := by kernel_rfl
def F_laws_eqKeeper (N : Nat) (a0 : DKeeper) (a1 : DKeeper) : Option Bool :=
  bif (!ieq a0.1 a1.1) then
    some false
  else
    bif (!ieq a0.2.1 a1.2.1) then
      some false
    else
      bif (!ieq a0.2.2.1 a1.2.2.1) then
        some false
      else
        chk (P_laws_eqItemS N a0.2.2.2.1 a1.2.2.2.1) <|
        bif (!(G_laws_eqItemS N a0.2.2.2.1 a1.2.2.2.1)) then
          some false
        else
          bif (!ieq a0.2.2.2.2.1 a1.2.2.2.2.1) then
            some false
          else
            bif (!ieq a0.2.2.2.2.2.1 a1.2.2.2.2.2.1) then
              some false
            else
              bif (!ieq a0.2.2.2.2.2.2.1 a1.2.2.2.2.2.2.1) then
                some false
              else
                chk (P_laws_eqInt64S N a0.2.2.2.2.2.2.2.1 a1.2.2.2.2.2.2.2.1) <|
                bif (!(G_laws_eqInt64S N a0.2.2.2.2.2.2.2.1 a1.2.2.2.2.2.2.2.1)) then
                  some false
                else
                  chk (P_laws_eqInt64S N a0.2.2.2.2.2.2.2.2.1 a1.2.2.2.2.2.2.2.2.1) <|
                  bif (!(G_laws_eqInt64S N a0.2.2.2.2.2.2.2.2.1 a1.2.2.2.2.2.2.2.2.1)) then
                    some false
                  else
                    bif (!(a0.2.2.2.2.2.2.2.2.2 == a1.2.2.2.2.2.2.2.2.2)) then
                      some false
                    else
                      some true
theorem F_laws_eqKeeper_run (N : Nat) (a0 : DKeeper) (a1 : DKeeper) :
    runF (O_laws_eqKeeper N) N B_laws_eqKeeper R_laws_eqKeeper (vals T_laws_eqKeeper (a0, a1)) = F_laws_eqKeeper N a0 a1 := by kernel_rfl
def P_laws_eqKeeper (N : Nat) (a0 : DKeeper) (a1 : DKeeper) : Bool := lock (F_laws_eqKeeper N a0 a1).isSome
def G_laws_eqKeeper (N : Nat) (a0 : DKeeper) (a1 : DKeeper) : Bool := lock ((F_laws_eqKeeper N a0 a1).getD false)
theorem FG_laws_eqKeeper {N : Nat} (a0 : DKeeper) (a1 : DKeeper) (h : P_laws_eqKeeper N a0 a1 = true) : F_laws_eqKeeper N a0 a1 = some (G_laws_eqKeeper N a0 a1) := by unfold P_laws_eqKeeper at h; unfold G_laws_eqKeeper; rw [lock_eq] at h ⊢; exact some_of_isSome h
theorem PG_laws_eqKeeper {N : Nat} {a0 : DKeeper} {a1 : DKeeper} {v : Bool} (h : F_laws_eqKeeper N a0 a1 = some v) : P_laws_eqKeeper N a0 a1 = true ∧ G_laws_eqKeeper N a0 a1 = v := by unfold P_laws_eqKeeper G_laws_eqKeeper; rw [h, lock_eq, lock_eq]; exact ⟨rfl, rfl⟩
def o_laws_eqKeeper (N : Nat) : List V → Bool × V := mkO T_laws_eqKeeper R_laws_eqKeeper (fun (x : (DKeeper × DKeeper)) => P_laws_eqKeeper N x.1 x.2) (fun (x : (DKeeper × DKeeper)) => G_laws_eqKeeper N x.1 x.2)
theorem laws_eqKeeper_entry (N : Nat) : Entry Try.prog 18 (o_laws_eqKeeper N) := Entry.of fun (x : (DKeeper × DKeeper)) h =>
  Pf.of_run hm Try.func18 okFn_laws_eqKeeper B_laws_eqKeeper_ok B_laws_eqKeeper_wf (O_laws_eqKeeper_ok N) rfl ((F_laws_eqKeeper_run N x.1 x.2).trans (FG_laws_eqKeeper x.1 x.2 h))
/-! loop.example/g00526/laws.eqKeeperS -/
abbrev T_laws_eqKeeperS : List GT := [(.sl tKeeper), (.sl tKeeper)]
abbrev R_laws_eqKeeperS : List GT := [.b]
def fin_laws_eqKeeperS : Fr2 → Hp → Option Bool := finF R_laws_eqKeeperS [.t 4]
def O_laws_eqKeeperS (N : Nat) : Orac := orc [(18, o_laws_eqKeeper N)] []
theorem O_laws_eqKeeperS_ok (N : Nat) : OrcOk Try.prog (O_laws_eqKeeperS N) := OrcOk.of ⟨laws_eqKeeper_entry N, trivial⟩ trivial
def c_laws_eqKeeperS_1 : C2 :=
    .seq (.seq (.reg .reg [.op (some 11) (.mov (.t 5)),
      .op (some 12) (.mov (.t 0)),
      .op (some 13) (.len false (.t 12)),
      .op (some 14) (.bin .lss (.t 11) (.t 13))])
    (.cond (.t 14) (.skip)
    (.exit 0)))
    (.seq (.block 1 (.seq (.reg (.dlin 8 2) [.op (some 17) (.mov (.t 0)),
      .op (some 18) (.mov (.t 5)),
      .op (some 19) (.iad 10 (.t 17) (.t 18)),
      .op (some 20) (.load 10 true (.t 19)),
      .op (some 21) (.mov (.t 1)),
      .op (some 22) (.mov (.t 5)),
      .op (some 23) (.iad 10 (.t 21) (.t 22)),
      .op (some 24) (.load 10 true (.t 23)),
      .op (some 25) (.call (.c (.f 18 [])) [.t 20, .t 24]),
      .op (some 26) (.un .not (.t 25))])
    (.cond (.t 26) (.seq (.reg .reg [.op (some 4) (.mov (.c (.b false)))])
    (.ret))
    (.skip))))
    (.reg .reg [.op (some 15) (.mov (.t 5)),
      .op (some 16) (.bin .add (.t 15) (.c (.n .i64 1))),
      .op (some 5) (.mov (.t 16))]))
def c_laws_eqKeeperS_2 : C2 :=
    .seq (.reg .reg [.op (some 4) (.mov (.c (.b true)))])
    (.ret)
def τ_laws_eqKeeperS : Nat → Option GT := fun _ => none
def B_laws_eqKeeperS : F2 := ⟨27, 2, [.t 4], τ_laws_eqKeeperS,
    .seq (.reg .reg [.op (some 4) (.mov (.c (.b false)))])
    (.seq (.seq (.reg .reg [.op (some 6) (.mov (.t 0)),
      .op (some 7) (.len false (.t 6)),
      .op (some 8) (.mov (.t 1)),
      .op (some 9) (.len false (.t 8)),
      .op (some 10) (.bin .neq (.t 7) (.t 9))])
    (.cond (.t 10) (.seq (.reg .reg [.op (some 4) (.mov (.c (.b false)))])
    (.ret))
    (.skip)))
    (.seq (.seq (.reg .reg [.op (some 5) (.mov (.c (.n .i64 0)))])
    (.block 0 (.loop [0, 1, 5] [] [] c_laws_eqKeeperS_1)))
    (c_laws_eqKeeperS_2)))⟩
theorem B_laws_eqKeeperS_ok : checkFn Try.prog Try.f74 B_laws_eqKeeperS.toA = true := by kernel_rfl
theorem B_laws_eqKeeperS_wf : B_laws_eqKeeperS.body.wf = true := by kernel_rfl
theorem okFn_laws_eqKeeperS : okFn Try.prog 74 = true := by kernel_rfl
def laws_eqKeeperS_l1s (r0 : Int → Option Bool) (k0_0 : Option Bool) (N : Nat) (a0 : List DKeeper) (a1 : List DKeeper) (v5_1 : Int) : Option Bool :=
  bif (ilt v5_1 ((a0.length) : Int)) then
    let x1 : DKeeper := (a0.getD (v5_1.toNat) dKeeper)
    let x2 : DKeeper := (a1.getD (v5_1.toNat) dKeeper)
    chk (inb v5_1 (a0.length)) <|
    chk (inb v5_1 (a1.length)) <|
    chk (P_laws_eqKeeper N x1 x2) <|
    bif (!(G_laws_eqKeeper N x1 x2)) then
      some false
    else
      r0 (w64 (v5_1 + (1 : Int)))
  else
    k0_0
theorem laws_eqKeeperS_l1s_run (N : Nat) (C0 : Fr2 → Hp → Option Bool) (K0 : Option Nat → Fr2 → Hp → Option Bool) (a0 : List DKeeper) (a1 : List DKeeper) (v5_1 : Int) :
    rcode (O_laws_eqKeeperS N) τ_laws_eqKeeperS N fin_laws_eqKeeperS c_laws_eqKeeperS_1 [(0, .q tKeeper a0), (1, .q tKeeper a1), (5, .n .i64 v5_1)] ⟨1, []⟩ (roundK [0, 1, 5] [] [] C0 K0) = laws_eqKeeperS_l1s (fun v5_1 => C0 [(0, .q tKeeper a0), (1, .q tKeeper a1), (5, .n .i64 v5_1)] ⟨1, []⟩) (K0 (some 0) [] ⟨1, []⟩) N a0 a1 v5_1 := by kernel_rfl
def laws_eqKeeperS_x1_0 (N : Nat) : Option Bool :=
  some true
theorem laws_eqKeeperS_x1_0_run (N : Nat)  :
    (blockK 0 (seqK' (fun fr H K => rcode (O_laws_eqKeeperS N) τ_laws_eqKeeperS N fin_laws_eqKeeperS c_laws_eqKeeperS_2 fr H K) (finK R_laws_eqKeeperS [.t 4]))) (some 0) [] ⟨1, []⟩ = laws_eqKeeperS_x1_0 N := by kernel_rfl
def laws_eqKeeperS_l1 (k0_0 : Option Bool) (N : Nat) (a0 : List DKeeper) (a1 : List DKeeper) : Nat → Int → Option Bool
  | 0, _ => none
  | n + 1, v5_1 => laws_eqKeeperS_l1s (laws_eqKeeperS_l1 k0_0 N a0 a1 n) k0_0 N a0 a1 v5_1
def laws_eqKeeperS_h1 (N : Nat) (a0 : List DKeeper) (a1 : List DKeeper) (v5_1 : Int) : Option Bool :=
  laws_eqKeeperS_l1 (laws_eqKeeperS_x1_0 N) N a0 a1 N v5_1
theorem laws_eqKeeperS_l1_run (N : Nat)  (K : Option Nat → Fr2 → Hp → Option Bool) (a0 : List DKeeper) (a1 : List DKeeper) : ∀ (n : Nat) (v5_1 : Int),
    rloop (fun fr H K => rcode (O_laws_eqKeeperS N) τ_laws_eqKeeperS N fin_laws_eqKeeperS c_laws_eqKeeperS_1 fr H K) [0, 1, 5] [] [] K n [(0, .q tKeeper a0), (1, .q tKeeper a1), (5, .n .i64 v5_1)] ⟨1, []⟩ = laws_eqKeeperS_l1 (K (some 0) [] ⟨1, []⟩) N a0 a1 n v5_1 := by
  intro n
  induction n with
  | zero => intro v5_1; kernel_rfl
  | succ n ih => intro v5_1; exact (laws_eqKeeperS_l1s_run N (rloop (fun fr H K => rcode (O_laws_eqKeeperS N) τ_laws_eqKeeperS N fin_laws_eqKeeperS c_laws_eqKeeperS_1 fr H K) [0, 1, 5] [] [] K n) K a0 a1 v5_1).trans (congrArg (fun r => laws_eqKeeperS_l1s r (K (some 0) [] ⟨1, []⟩) N a0 a1 v5_1) (funext fun v5_1 => ih v5_1))
theorem laws_eqKeeperS_h1_run (N : Nat) (a0 : List DKeeper) (a1 : List DKeeper) (v5_1 : Int) : rloop (fun fr H K => rcode (O_laws_eqKeeperS N) τ_laws_eqKeeperS N fin_laws_eqKeeperS c_laws_eqKeeperS_1 fr H K) [0, 1, 5] [] [] (blockK 0 (seqK' (fun fr H K => rcode (O_laws_eqKeeperS N) τ_laws_eqKeeperS N fin_laws_eqKeeperS c_laws_eqKeeperS_2 fr H K) (finK R_laws_eqKeeperS [.t 4]))) N [(0, .q tKeeper a0), (1, .q tKeeper a1), (5, .n .i64 v5_1)] ⟨1, []⟩ = laws_eqKeeperS_h1 N a0 a1 v5_1 :=
  ((laws_eqKeeperS_l1_run N (blockK 0 (seqK' (fun fr H K => rcode (O_laws_eqKeeperS N) τ_laws_eqKeeperS N fin_laws_eqKeeperS c_laws_eqKeeperS_2 fr H K) (finK R_laws_eqKeeperS [.t 4]))) a0 a1 N v5_1)).trans (congrArg (fun h => laws_eqKeeperS_l1 h N a0 a1 N v5_1) (laws_eqKeeperS_x1_0_run N ))
def F_laws_eqKeeperSR (N : Nat) (laws_eqKeeperS_h1 : List DKeeper → List DKeeper → Int → Option Bool) (a0 : List DKeeper) (a1 : List DKeeper) : Option Bool :=
  bif (!ieq ((a0.length) : Int) ((a1.length) : Int)) then
    some false
  else
    laws_eqKeeperS_h1 a0 a1 (0 : Int)
def F_laws_eqKeeperS (N : Nat) (a0 : List DKeeper) (a1 : List DKeeper) : Option Bool := F_laws_eqKeeperSR N (laws_eqKeeperS_h1 N) a0 a1
theorem F_laws_eqKeeperS_raw (N : Nat) (a0 : List DKeeper) (a1 : List DKeeper) :
    runF (O_laws_eqKeeperS N) N B_laws_eqKeeperS R_laws_eqKeeperS (vals T_laws_eqKeeperS (a0, a1)) = F_laws_eqKeeperSR N (fun a0 a1 v5_1 => rloop (fun fr H K => rcode (O_laws_eqKeeperS N) τ_laws_eqKeeperS N fin_laws_eqKeeperS c_laws_eqKeeperS_1 fr H K) [0, 1, 5] [] [] (blockK 0 (seqK' (fun fr H K => rcode (O_laws_eqKeeperS N) τ_laws_eqKeeperS N fin_laws_eqKeeperS c_laws_eqKeeperS_2 fr H K) (finK R_laws_eqKeeperS [.t 4]))) N [(0, .q tKeeper a0), (1, .q tKeeper a1), (5, .n .i64 v5_1)] ⟨1, []⟩) a0 a1 := by kernel_rfl
theorem F_laws_eqKeeperS_run (N : Nat) (a0 : List DKeeper) (a1 : List DKeeper) :
    runF (O_laws_eqKeeperS N) N B_laws_eqKeeperS R_laws_eqKeeperS (vals T_laws_eqKeeperS (a0, a1)) = F_laws_eqKeeperS N a0 a1 :=
  (F_laws_eqKeeperS_raw N a0 a1).trans (congrArg (fun h => F_laws_eqKeeperSR N h a0 a1) (funext fun a0 => funext fun a1 => funext fun v5_1 => laws_eqKeeperS_h1_run N a0 a1 v5_1))
def P_laws_eqKeeperS (N : Nat) (a0 : List DKeeper) (a1 : List DKeeper) : Bool := lock (F_laws_eqKeeperS N a0 a1).isSome
def G_laws_eqKeeperS (N : Nat) (a0 : List DKeeper) (a1 : List DKeeper) : Bool := lock ((F_laws_eqKeeperS N a0 a1).getD false)
theorem FG_laws_eqKeeperS {N : Nat} (a0 : List DKeeper) (a1 : List DKeeper) (h : P_laws_eqKeeperS N a0 a1 = true) : F_laws_eqKeeperS N a0 a1 = some (G_laws_eqKeeperS N a0 a1) := by unfold P_laws_eqKeeperS at h; unfold G_laws_eqKeeperS; rw [lock_eq] at h ⊢; exact some_of_isSome h
theorem PG_laws_eqKeeperS {N : Nat} {a0 : List DKeeper} {a1 : List DKeeper} {v : Bool} (h : F_laws_eqKeeperS N a0 a1 = some v) : P_laws_eqKeeperS N a0 a1 = true ∧ G_laws_eqKeeperS N a0 a1 = v := by unfold P_laws_eqKeeperS G_laws_eqKeeperS; rw [h, lock_eq, lock_eq]; exact ⟨rfl, rfl⟩
def o_laws_eqKeeperS (N : Nat) : List V → Bool × V := mkO T_laws_eqKeeperS R_laws_eqKeeperS (fun (x : (List DKeeper × List DKeeper)) => P_laws_eqKeeperS N x.1 x.2) (fun (x : (List DKeeper × List DKeeper)) => G_laws_eqKeeperS N x.1 x.2)
theorem laws_eqKeeperS_entry (N : Nat) : Entry Try.prog 74 (o_laws_eqKeeperS N) := Entry.of fun (x : (List DKeeper × List DKeeper)) h =>
  Pf.of_run hm Try.func74 okFn_laws_eqKeeperS B_laws_eqKeeperS_ok B_laws_eqKeeperS_wf (O_laws_eqKeeperS_ok N) rfl ((F_laws_eqKeeperS_run N x.1 x.2).trans (FG_laws_eqKeeperS x.1 x.2 h))
/-! loop.example/g00526/laws.eqLetter -/
abbrev T_laws_eqLetter : List GT := [tLetter, tLetter]
abbrev R_laws_eqLetter : List GT := [.b]
def fin_laws_eqLetter : Fr2 → Hp → Option Bool := finF R_laws_eqLetter [.t 4]
def O_laws_eqLetter (N : Nat) : Orac := orc [(68, o_laws_eqItemS N)] []
theorem O_laws_eqLetter_ok (N : Nat) : OrcOk Try.prog (O_laws_eqLetter N) := OrcOk.of ⟨laws_eqItemS_entry N, trivial⟩ trivial
def τ_laws_eqLetter : Nat → Option GT := fun _ => none
def B_laws_eqLetter : F2 := ⟨51, 2, [.t 4], τ_laws_eqLetter,
    .seq (.reg .reg [.op (some 2) (.box (.t 0)),
      .op (some 3) (.box (.t 1)),
      .op (some 4) (.mov (.c (.b false)))])
    (.seq (.seq (.reg .reg [.op (some 5) (.fad 0 (.t 2)),
      .op (some 6) (.load 1 false (.t 5)),
      .op (some 7) (.fad 0 (.t 3)),
      .op (some 8) (.load 1 false (.t 7)),
      .op (some 9) (.bin .neq (.t 6) (.t 8))])
    (.cond (.t 9) (.seq (.reg .reg [.op (some 4) (.mov (.c (.b false)))])
    (.ret))
    (.skip)))
    (.seq (.seq (.reg .reg [.op (some 10) (.fad 1 (.t 2)),
      .op (some 11) (.load 1 false (.t 10)),
      .op (some 12) (.fad 1 (.t 3)),
      .op (some 13) (.load 1 false (.t 12)),
      .op (some 14) (.bin .neq (.t 11) (.t 13))])
    (.cond (.t 14) (.seq (.reg .reg [.op (some 4) (.mov (.c (.b false)))])
    (.ret))
    (.skip)))
    (.seq (.seq (.reg .reg [.op (some 15) (.fad 2 (.t 2)),
      .op (some 16) (.load 1 false (.t 15)),
      .op (some 17) (.fad 2 (.t 3)),
      .op (some 18) (.load 1 false (.t 17)),
      .op (some 19) (.bin .neq (.t 16) (.t 18))])
    (.cond (.t 19) (.seq (.reg .reg [.op (some 4) (.mov (.c (.b false)))])
    (.ret))
    (.skip)))
    (.seq (.seq (.reg .reg [.op (some 20) (.fad 3 (.t 2)),
      .op (some 21) (.load 1 false (.t 20)),
      .op (some 22) (.fad 3 (.t 3)),
      .op (some 23) (.load 1 false (.t 22)),
      .op (some 24) (.bin .neq (.t 21) (.t 23))])
    (.cond (.t 24) (.seq (.reg .reg [.op (some 4) (.mov (.c (.b false)))])
    (.ret))
    (.skip)))
    (.seq (.seq (.reg .reg [.op (some 25) (.fad 4 (.t 2)),
      .op (some 26) (.load 1 false (.t 25)),
      .op (some 27) (.fad 4 (.t 3)),
      .op (some 28) (.load 1 false (.t 27)),
      .op (some 29) (.bin .neq (.t 26) (.t 28))])
    (.cond (.t 29) (.seq (.reg .reg [.op (some 4) (.mov (.c (.b false)))])
    (.ret))
    (.skip)))
    (.seq (.seq (.reg .reg [.op (some 30) (.fad 5 (.t 2)),
      .op (some 31) (.load 1 false (.t 30)),
      .op (some 32) (.fad 5 (.t 3)),
      .op (some 33) (.load 1 false (.t 32)),
      .op (some 34) (.bin .neq (.t 31) (.t 33))])
    (.cond (.t 34) (.seq (.reg .reg [.op (some 4) (.mov (.c (.b false)))])
    (.ret))
    (.skip)))
    (.seq (.seq (.reg .reg [.op (some 35) (.fad 6 (.t 2)),
      .op (some 36) (.load 1 false (.t 35)),
      .op (some 37) (.fad 6 (.t 3)),
      .op (some 38) (.load 1 false (.t 37)),
      .op (some 39) (.call (.c (.f 68 [])) [.t 36, .t 38]),
      .op (some 40) (.un .not (.t 39))])
    (.cond (.t 40) (.seq (.reg .reg [.op (some 4) (.mov (.c (.b false)))])
    (.ret))
    (.skip)))
    (.seq (.seq (.reg .reg [.op (some 41) (.fad 7 (.t 2)),
      .op (some 42) (.load 1 false (.t 41)),
      .op (some 43) (.fad 7 (.t 3)),
      .op (some 44) (.load 1 false (.t 43)),
      .op (some 45) (.bin .neq (.t 42) (.t 44))])
    (.cond (.t 45) (.seq (.reg .reg [.op (some 4) (.mov (.c (.b false)))])
    (.ret))
    (.skip)))
    (.seq (.seq (.reg .reg [.op (some 46) (.fad 8 (.t 2)),
      .op (some 47) (.load 1 false (.t 46)),
      .op (some 48) (.fad 8 (.t 3)),
      .op (some 49) (.load 1 false (.t 48)),
      .op (some 50) (.beq true (.t 47) (.t 49))])
    (.cond (.t 50) (.seq (.reg .reg [.op (some 4) (.mov (.c (.b false)))])
    (.ret))
    (.skip)))
    (.seq (.reg .reg [.op (some 4) (.mov (.c (.b true)))])
    (.ret)))))))))))⟩
theorem B_laws_eqLetter_ok : checkFn Try.prog Try.f37 B_laws_eqLetter.toA = true := by kernel_rfl
theorem B_laws_eqLetter_wf : B_laws_eqLetter.body.wf = true := by kernel_rfl
theorem okFn_laws_eqLetter : okFn Try.prog 37 = true := by kernel_rfl
def F_laws_eqLetter (N : Nat) (a0 : DLetter) (a1 : DLetter) : Option Bool :=
  bif (!ieq a0.1 a1.1) then
    some false
  else
    bif (!ieq a0.2.1 a1.2.1) then
      some false
    else
      bif (!ieq a0.2.2.1 a1.2.2.1) then
        some false
      else
        bif (!ieq a0.2.2.2.1 a1.2.2.2.1) then
          some false
        else
          bif (!ieq a0.2.2.2.2.1 a1.2.2.2.2.1) then
            some false
          else
            bif (!ieq a0.2.2.2.2.2.1 a1.2.2.2.2.2.1) then
              some false
            else
              chk (P_laws_eqItemS N a0.2.2.2.2.2.2.1 a1.2.2.2.2.2.2.1) <|
              bif (!(G_laws_eqItemS N a0.2.2.2.2.2.2.1 a1.2.2.2.2.2.2.1)) then
                some false
              else
                bif (!ieq a0.2.2.2.2.2.2.2.1 a1.2.2.2.2.2.2.2.1) then
                  some false
                else
                  bif (!(a0.2.2.2.2.2.2.2.2 == a1.2.2.2.2.2.2.2.2)) then
                    some false
                  else
                    some true
theorem F_laws_eqLetter_run (N : Nat) (a0 : DLetter) (a1 : DLetter) :
    runF (O_laws_eqLetter N) N B_laws_eqLetter R_laws_eqLetter (vals T_laws_eqLetter (a0, a1)) = F_laws_eqLetter N a0 a1 := by kernel_rfl
def P_laws_eqLetter (N : Nat) (a0 : DLetter) (a1 : DLetter) : Bool := lock (F_laws_eqLetter N a0 a1).isSome
def G_laws_eqLetter (N : Nat) (a0 : DLetter) (a1 : DLetter) : Bool := lock ((F_laws_eqLetter N a0 a1).getD false)
theorem FG_laws_eqLetter {N : Nat} (a0 : DLetter) (a1 : DLetter) (h : P_laws_eqLetter N a0 a1 = true) : F_laws_eqLetter N a0 a1 = some (G_laws_eqLetter N a0 a1) := by unfold P_laws_eqLetter at h; unfold G_laws_eqLetter; rw [lock_eq] at h ⊢; exact some_of_isSome h
theorem PG_laws_eqLetter {N : Nat} {a0 : DLetter} {a1 : DLetter} {v : Bool} (h : F_laws_eqLetter N a0 a1 = some v) : P_laws_eqLetter N a0 a1 = true ∧ G_laws_eqLetter N a0 a1 = v := by unfold P_laws_eqLetter G_laws_eqLetter; rw [h, lock_eq, lock_eq]; exact ⟨rfl, rfl⟩
def o_laws_eqLetter (N : Nat) : List V → Bool × V := mkO T_laws_eqLetter R_laws_eqLetter (fun (x : (DLetter × DLetter)) => P_laws_eqLetter N x.1 x.2) (fun (x : (DLetter × DLetter)) => G_laws_eqLetter N x.1 x.2)
theorem laws_eqLetter_entry (N : Nat) : Entry Try.prog 37 (o_laws_eqLetter N) := Entry.of fun (x : (DLetter × DLetter)) h =>
  Pf.of_run hm Try.func37 okFn_laws_eqLetter B_laws_eqLetter_ok B_laws_eqLetter_wf (O_laws_eqLetter_ok N) rfl ((F_laws_eqLetter_run N x.1 x.2).trans (FG_laws_eqLetter x.1 x.2 h))
/-! loop.example/g00526/laws.eqLetterS -/
abbrev T_laws_eqLetterS : List GT := [(.sl tLetter), (.sl tLetter)]
abbrev R_laws_eqLetterS : List GT := [.b]
def fin_laws_eqLetterS : Fr2 → Hp → Option Bool := finF R_laws_eqLetterS [.t 4]
def O_laws_eqLetterS (N : Nat) : Orac := orc [(37, o_laws_eqLetter N)] []
theorem O_laws_eqLetterS_ok (N : Nat) : OrcOk Try.prog (O_laws_eqLetterS N) := OrcOk.of ⟨laws_eqLetter_entry N, trivial⟩ trivial
def c_laws_eqLetterS_1 : C2 :=
    .seq (.seq (.reg .reg [.op (some 11) (.mov (.t 5)),
      .op (some 12) (.mov (.t 0)),
      .op (some 13) (.len false (.t 12)),
      .op (some 14) (.bin .lss (.t 11) (.t 13))])
    (.cond (.t 14) (.skip)
    (.exit 0)))
    (.seq (.block 1 (.seq (.reg (.dlin 8 2) [.op (some 17) (.mov (.t 0)),
      .op (some 18) (.mov (.t 5)),
      .op (some 19) (.iad 9 (.t 17) (.t 18)),
      .op (some 20) (.load 9 true (.t 19)),
      .op (some 21) (.mov (.t 1)),
      .op (some 22) (.mov (.t 5)),
      .op (some 23) (.iad 9 (.t 21) (.t 22)),
      .op (some 24) (.load 9 true (.t 23)),
      .op (some 25) (.call (.c (.f 37 [])) [.t 20, .t 24]),
      .op (some 26) (.un .not (.t 25))])
    (.cond (.t 26) (.seq (.reg .reg [.op (some 4) (.mov (.c (.b false)))])
    (.ret))
    (.skip))))
    (.reg .reg [.op (some 15) (.mov (.t 5)),
      .op (some 16) (.bin .add (.t 15) (.c (.n .i64 1))),
      .op (some 5) (.mov (.t 16))]))
def c_laws_eqLetterS_2 : C2 :=
    .seq (.reg .reg [.op (some 4) (.mov (.c (.b true)))])
    (.ret)
def τ_laws_eqLetterS : Nat → Option GT := fun _ => none
def B_laws_eqLetterS : F2 := ⟨27, 2, [.t 4], τ_laws_eqLetterS,
    .seq (.reg .reg [.op (some 4) (.mov (.c (.b false)))])
    (.seq (.seq (.reg .reg [.op (some 6) (.mov (.t 0)),
      .op (some 7) (.len false (.t 6)),
      .op (some 8) (.mov (.t 1)),
      .op (some 9) (.len false (.t 8)),
      .op (some 10) (.bin .neq (.t 7) (.t 9))])
    (.cond (.t 10) (.seq (.reg .reg [.op (some 4) (.mov (.c (.b false)))])
    (.ret))
    (.skip)))
    (.seq (.seq (.reg .reg [.op (some 5) (.mov (.c (.n .i64 0)))])
    (.block 0 (.loop [0, 1, 5] [] [] c_laws_eqLetterS_1)))
    (c_laws_eqLetterS_2)))⟩
theorem B_laws_eqLetterS_ok : checkFn Try.prog Try.f46 B_laws_eqLetterS.toA = true := by kernel_rfl
theorem B_laws_eqLetterS_wf : B_laws_eqLetterS.body.wf = true := by kernel_rfl
theorem okFn_laws_eqLetterS : okFn Try.prog 46 = true := by kernel_rfl
def laws_eqLetterS_l1s (r0 : Int → Option Bool) (k0_0 : Option Bool) (N : Nat) (a0 : List DLetter) (a1 : List DLetter) (v5_1 : Int) : Option Bool :=
  bif (ilt v5_1 ((a0.length) : Int)) then
    let x1 : DLetter := (a0.getD (v5_1.toNat) dLetter)
    let x2 : DLetter := (a1.getD (v5_1.toNat) dLetter)
    chk (inb v5_1 (a0.length)) <|
    chk (inb v5_1 (a1.length)) <|
    chk (P_laws_eqLetter N x1 x2) <|
    bif (!(G_laws_eqLetter N x1 x2)) then
      some false
    else
      r0 (w64 (v5_1 + (1 : Int)))
  else
    k0_0
theorem laws_eqLetterS_l1s_run (N : Nat) (C0 : Fr2 → Hp → Option Bool) (K0 : Option Nat → Fr2 → Hp → Option Bool) (a0 : List DLetter) (a1 : List DLetter) (v5_1 : Int) :
    rcode (O_laws_eqLetterS N) τ_laws_eqLetterS N fin_laws_eqLetterS c_laws_eqLetterS_1 [(0, .q tLetter a0), (1, .q tLetter a1), (5, .n .i64 v5_1)] ⟨1, []⟩ (roundK [0, 1, 5] [] [] C0 K0) = laws_eqLetterS_l1s (fun v5_1 => C0 [(0, .q tLetter a0), (1, .q tLetter a1), (5, .n .i64 v5_1)] ⟨1, []⟩) (K0 (some 0) [] ⟨1, []⟩) N a0 a1 v5_1 := by kernel_rfl
def laws_eqLetterS_x1_0 (N : Nat) : Option Bool :=
  some true
theorem laws_eqLetterS_x1_0_run (N : Nat)  :
    (blockK 0 (seqK' (fun fr H K => rcode (O_laws_eqLetterS N) τ_laws_eqLetterS N fin_laws_eqLetterS c_laws_eqLetterS_2 fr H K) (finK R_laws_eqLetterS [.t 4]))) (some 0) [] ⟨1, []⟩ = laws_eqLetterS_x1_0 N := by kernel_rfl
def laws_eqLetterS_l1 (k0_0 : Option Bool) (N : Nat) (a0 : List DLetter) (a1 : List DLetter) : Nat → Int → Option Bool
  | 0, _ => none
  | n + 1, v5_1 => laws_eqLetterS_l1s (laws_eqLetterS_l1 k0_0 N a0 a1 n) k0_0 N a0 a1 v5_1
def laws_eqLetterS_h1 (N : Nat) (a0 : List DLetter) (a1 : List DLetter) (v5_1 : Int) : Option Bool :=
  laws_eqLetterS_l1 (laws_eqLetterS_x1_0 N) N a0 a1 N v5_1
theorem laws_eqLetterS_l1_run (N : Nat)  (K : Option Nat → Fr2 → Hp → Option Bool) (a0 : List DLetter) (a1 : List DLetter) : ∀ (n : Nat) (v5_1 : Int),
    rloop (fun fr H K => rcode (O_laws_eqLetterS N) τ_laws_eqLetterS N fin_laws_eqLetterS c_laws_eqLetterS_1 fr H K) [0, 1, 5] [] [] K n [(0, .q tLetter a0), (1, .q tLetter a1), (5, .n .i64 v5_1)] ⟨1, []⟩ = laws_eqLetterS_l1 (K (some 0) [] ⟨1, []⟩) N a0 a1 n v5_1 := by
  intro n
  induction n with
  | zero => intro v5_1; kernel_rfl
  | succ n ih => intro v5_1; exact (laws_eqLetterS_l1s_run N (rloop (fun fr H K => rcode (O_laws_eqLetterS N) τ_laws_eqLetterS N fin_laws_eqLetterS c_laws_eqLetterS_1 fr H K) [0, 1, 5] [] [] K n) K a0 a1 v5_1).trans (congrArg (fun r => laws_eqLetterS_l1s r (K (some 0) [] ⟨1, []⟩) N a0 a1 v5_1) (funext fun v5_1 => ih v5_1))
theorem laws_eqLetterS_h1_run (N : Nat) (a0 : List DLetter) (a1 : List DLetter) (v5_1 : Int) : rloop (fun fr H K => rcode (O_laws_eqLetterS N) τ_laws_eqLetterS N fin_laws_eqLetterS c_laws_eqLetterS_1 fr H K) [0, 1, 5] [] [] (blockK 0 (seqK' (fun fr H K => rcode (O_laws_eqLetterS N) τ_laws_eqLetterS N fin_laws_eqLetterS c_laws_eqLetterS_2 fr H K) (finK R_laws_eqLetterS [.t 4]))) N [(0, .q tLetter a0), (1, .q tLetter a1), (5, .n .i64 v5_1)] ⟨1, []⟩ = laws_eqLetterS_h1 N a0 a1 v5_1 :=
  ((laws_eqLetterS_l1_run N (blockK 0 (seqK' (fun fr H K => rcode (O_laws_eqLetterS N) τ_laws_eqLetterS N fin_laws_eqLetterS c_laws_eqLetterS_2 fr H K) (finK R_laws_eqLetterS [.t 4]))) a0 a1 N v5_1)).trans (congrArg (fun h => laws_eqLetterS_l1 h N a0 a1 N v5_1) (laws_eqLetterS_x1_0_run N ))
def F_laws_eqLetterSR (N : Nat) (laws_eqLetterS_h1 : List DLetter → List DLetter → Int → Option Bool) (a0 : List DLetter) (a1 : List DLetter) : Option Bool :=
  bif (!ieq ((a0.length) : Int) ((a1.length) : Int)) then
    some false
  else
    laws_eqLetterS_h1 a0 a1 (0 : Int)
def F_laws_eqLetterS (N : Nat) (a0 : List DLetter) (a1 : List DLetter) : Option Bool := F_laws_eqLetterSR N (laws_eqLetterS_h1 N) a0 a1
theorem F_laws_eqLetterS_raw (N : Nat) (a0 : List DLetter) (a1 : List DLetter) :
    runF (O_laws_eqLetterS N) N B_laws_eqLetterS R_laws_eqLetterS (vals T_laws_eqLetterS (a0, a1)) = F_laws_eqLetterSR N (fun a0 a1 v5_1 => rloop (fun fr H K => rcode (O_laws_eqLetterS N) τ_laws_eqLetterS N fin_laws_eqLetterS c_laws_eqLetterS_1 fr H K) [0, 1, 5] [] [] (blockK 0 (seqK' (fun fr H K => rcode (O_laws_eqLetterS N) τ_laws_eqLetterS N fin_laws_eqLetterS c_laws_eqLetterS_2 fr H K) (finK R_laws_eqLetterS [.t 4]))) N [(0, .q tLetter a0), (1, .q tLetter a1), (5, .n .i64 v5_1)] ⟨1, []⟩) a0 a1 := by kernel_rfl
theorem F_laws_eqLetterS_run (N : Nat) (a0 : List DLetter) (a1 : List DLetter) :
    runF (O_laws_eqLetterS N) N B_laws_eqLetterS R_laws_eqLetterS (vals T_laws_eqLetterS (a0, a1)) = F_laws_eqLetterS N a0 a1 :=
  (F_laws_eqLetterS_raw N a0 a1).trans (congrArg (fun h => F_laws_eqLetterSR N h a0 a1) (funext fun a0 => funext fun a1 => funext fun v5_1 => laws_eqLetterS_h1_run N a0 a1 v5_1))
def P_laws_eqLetterS (N : Nat) (a0 : List DLetter) (a1 : List DLetter) : Bool := lock (F_laws_eqLetterS N a0 a1).isSome
def G_laws_eqLetterS (N : Nat) (a0 : List DLetter) (a1 : List DLetter) : Bool := lock ((F_laws_eqLetterS N a0 a1).getD false)
theorem FG_laws_eqLetterS {N : Nat} (a0 : List DLetter) (a1 : List DLetter) (h : P_laws_eqLetterS N a0 a1 = true) : F_laws_eqLetterS N a0 a1 = some (G_laws_eqLetterS N a0 a1) := by unfold P_laws_eqLetterS at h; unfold G_laws_eqLetterS; rw [lock_eq] at h ⊢; exact some_of_isSome h
theorem PG_laws_eqLetterS {N : Nat} {a0 : List DLetter} {a1 : List DLetter} {v : Bool} (h : F_laws_eqLetterS N a0 a1 = some v) : P_laws_eqLetterS N a0 a1 = true ∧ G_laws_eqLetterS N a0 a1 = v := by unfold P_laws_eqLetterS G_laws_eqLetterS; rw [h, lock_eq, lock_eq]; exact ⟨rfl, rfl⟩
def o_laws_eqLetterS (N : Nat) : List V → Bool × V := mkO T_laws_eqLetterS R_laws_eqLetterS (fun (x : (List DLetter × List DLetter)) => P_laws_eqLetterS N x.1 x.2) (fun (x : (List DLetter × List DLetter)) => G_laws_eqLetterS N x.1 x.2)
theorem laws_eqLetterS_entry (N : Nat) : Entry Try.prog 46 (o_laws_eqLetterS N) := Entry.of fun (x : (List DLetter × List DLetter)) h =>
  Pf.of_run hm Try.func46 okFn_laws_eqLetterS B_laws_eqLetterS_ok B_laws_eqLetterS_wf (O_laws_eqLetterS_ok N) rfl ((F_laws_eqLetterS_run N x.1 x.2).trans (FG_laws_eqLetterS x.1 x.2 h))
/-! loop.example/g00526/laws.eqHouse -/
abbrev T_laws_eqHouse : List GT := [tHouse, tHouse]
abbrev R_laws_eqHouse : List GT := [.b]
def fin_laws_eqHouse : Fr2 → Hp → Option Bool := finF R_laws_eqHouse [.t 4]
def O_laws_eqHouse (N : Nat) : Orac := orc [(74, o_laws_eqKeeperS N), (46, o_laws_eqLetterS N)] []
theorem O_laws_eqHouse_ok (N : Nat) : OrcOk Try.prog (O_laws_eqHouse N) := OrcOk.of ⟨laws_eqKeeperS_entry N, laws_eqLetterS_entry N, trivial⟩ trivial
def τ_laws_eqHouse : Nat → Option GT := fun _ => none
def B_laws_eqHouse : F2 := ⟨17, 2, [.t 4], τ_laws_eqHouse,
    .seq (.reg .reg [.op (some 2) (.box (.t 0)),
      .op (some 3) (.box (.t 1)),
      .op (some 4) (.mov (.c (.b false)))])
    (.seq (.seq (.reg .reg [.op (some 5) (.fad 0 (.t 2)),
      .op (some 6) (.load 1 false (.t 5)),
      .op (some 7) (.fad 0 (.t 3)),
      .op (some 8) (.load 1 false (.t 7)),
      .op (some 9) (.call (.c (.f 74 [])) [.t 6, .t 8]),
      .op (some 10) (.un .not (.t 9))])
    (.cond (.t 10) (.seq (.reg .reg [.op (some 4) (.mov (.c (.b false)))])
    (.ret))
    (.skip)))
    (.seq (.seq (.reg .reg [.op (some 11) (.fad 1 (.t 2)),
      .op (some 12) (.load 1 false (.t 11)),
      .op (some 13) (.fad 1 (.t 3)),
      .op (some 14) (.load 1 false (.t 13)),
      .op (some 15) (.call (.c (.f 46 [])) [.t 12, .t 14]),
      .op (some 16) (.un .not (.t 15))])
    (.cond (.t 16) (.seq (.reg .reg [.op (some 4) (.mov (.c (.b false)))])
    (.ret))
    (.skip)))
    (.seq (.reg .reg [.op (some 4) (.mov (.c (.b true)))])
    (.ret))))⟩
theorem B_laws_eqHouse_ok : checkFn Try.prog Try.f23 B_laws_eqHouse.toA = true := by kernel_rfl
theorem B_laws_eqHouse_wf : B_laws_eqHouse.body.wf = true := by kernel_rfl
theorem okFn_laws_eqHouse : okFn Try.prog 23 = true := by kernel_rfl
def F_laws_eqHouse (N : Nat) (a0 : DHouse) (a1 : DHouse) : Option Bool :=
  chk (P_laws_eqKeeperS N a0.1 a1.1) <|
  bif (!(G_laws_eqKeeperS N a0.1 a1.1)) then
    some false
  else
    chk (P_laws_eqLetterS N a0.2 a1.2) <|
    bif (!(G_laws_eqLetterS N a0.2 a1.2)) then
      some false
    else
      some true
theorem F_laws_eqHouse_run (N : Nat) (a0 : DHouse) (a1 : DHouse) :
    runF (O_laws_eqHouse N) N B_laws_eqHouse R_laws_eqHouse (vals T_laws_eqHouse (a0, a1)) = F_laws_eqHouse N a0 a1 := by kernel_rfl
def P_laws_eqHouse (N : Nat) (a0 : DHouse) (a1 : DHouse) : Bool := lock (F_laws_eqHouse N a0 a1).isSome
def G_laws_eqHouse (N : Nat) (a0 : DHouse) (a1 : DHouse) : Bool := lock ((F_laws_eqHouse N a0 a1).getD false)
theorem FG_laws_eqHouse {N : Nat} (a0 : DHouse) (a1 : DHouse) (h : P_laws_eqHouse N a0 a1 = true) : F_laws_eqHouse N a0 a1 = some (G_laws_eqHouse N a0 a1) := by unfold P_laws_eqHouse at h; unfold G_laws_eqHouse; rw [lock_eq] at h ⊢; exact some_of_isSome h
theorem PG_laws_eqHouse {N : Nat} {a0 : DHouse} {a1 : DHouse} {v : Bool} (h : F_laws_eqHouse N a0 a1 = some v) : P_laws_eqHouse N a0 a1 = true ∧ G_laws_eqHouse N a0 a1 = v := by unfold P_laws_eqHouse G_laws_eqHouse; rw [h, lock_eq, lock_eq]; exact ⟨rfl, rfl⟩
def o_laws_eqHouse (N : Nat) : List V → Bool × V := mkO T_laws_eqHouse R_laws_eqHouse (fun (x : (DHouse × DHouse)) => P_laws_eqHouse N x.1 x.2) (fun (x : (DHouse × DHouse)) => G_laws_eqHouse N x.1 x.2)
theorem laws_eqHouse_entry (N : Nat) : Entry Try.prog 23 (o_laws_eqHouse N) := Entry.of fun (x : (DHouse × DHouse)) h =>
  Pf.of_run hm Try.func23 okFn_laws_eqHouse B_laws_eqHouse_ok B_laws_eqHouse_wf (O_laws_eqHouse_ok N) rfl ((F_laws_eqHouse_run N x.1 x.2).trans (FG_laws_eqHouse x.1 x.2 h))
/-! loop.example/g00526/laws.FnExactHouseOk -/
abbrev T_laws_FnExactHouseOk : List GT := [tHouse]
abbrev R_laws_FnExactHouseOk : List GT := [.b]
def fin_laws_FnExactHouseOk : Fr2 → Hp → Option Bool := finF R_laws_FnExactHouseOk [.t 2]
def O_laws_FnExactHouseOk (N : Nat) : Orac := orc [(40, o_laws_szHouse N), (42, o_laws_toHouse N), (41, o_spec_HouseOk N), (43, o_impl_HouseOk N), (23, o_laws_eqHouse N)] []
theorem O_laws_FnExactHouseOk_ok (N : Nat) : OrcOk Try.prog (O_laws_FnExactHouseOk N) := OrcOk.of ⟨laws_szHouse_entry N, laws_toHouse_entry N, spec_HouseOk_entry N, impl_HouseOk_entry N, laws_eqHouse_entry N, trivial⟩ trivial
def τ_laws_FnExactHouseOk : Nat → Option GT := fun _ => none
def B_laws_FnExactHouseOk : F2 := ⟨27, 1, [.t 2], τ_laws_FnExactHouseOk,
    .seq (.reg .reg [.op (some 1) (.box (.t 0)),
      .op (some 2) (.mov (.c (.b false)))])
    (.seq (.reg .reg [.op (some 3) (.mov (.c (.n .i64 1048576)))])
    (.seq (.reg .reg [.op (some 7) (.load 2 true (.t 1)),
      .op (some 8) (.mov (.t 3)),
      .op (some 9) (.call (.c (.f 40 [])) [.t 7, .t 8]),
      .op (some 3) (.mov (.t 9))])
    (.seq (.seq (.reg .reg [.op (some 10) (.mov (.t 3)),
      .op (some 11) (.bin .lss (.t 10) (.c (.n .i64 0)))])
    (.cond (.t 11) (.seq (.reg .reg [.op (some 2) (.mov (.c (.b true)))])
    (.ret))
    (.skip)))
    (.seq (.reg .reg [.op (some 12) (.load 2 true (.t 1)),
      .op (some 13) (.call (.c (.f 42 [])) [.t 12]),
      .op (some 14) (.call (.c (.f 41 [])) [.t 13]),
      .op (some 4) (.mov (.t 14))])
    (.seq (.reg .reg [.op (some 15) (.load 2 true (.t 1)),
      .op (some 16) (.call (.c (.f 42 [])) [.t 15]),
      .op (some 5) (.aloc [.l 0 0 0, .l 0 0 0]),
      .op none (.stor 2 (.t 5) (.t 16))])
    (.seq (.reg .reg [.op (some 17) (.load 2 true (.t 5)),
      .op (some 18) (.call (.c (.f 43 [])) [.t 17]),
      .op (some 6) (.mov (.t 18))])
    (.seq (.seq (.reg .reg [.op (some 19) (.mov (.t 6)),
      .op (some 20) (.mov (.t 4)),
      .op (some 21) (.beq true (.t 19) (.t 20))])
    (.cond (.t 21) (.seq (.reg .reg [.op (some 2) (.mov (.c (.b false)))])
    (.ret))
    (.skip)))
    (.seq (.seq (.reg (.dlin 2 3) [.op (some 22) (.load 2 true (.t 5)),
      .op (some 23) (.load 2 true (.t 1)),
      .op (some 24) (.call (.c (.f 42 [])) [.t 23]),
      .op (some 25) (.call (.c (.f 23 [])) [.t 22, .t 24]),
      .op (some 26) (.un .not (.t 25))])
    (.cond (.t 26) (.seq (.reg .reg [.op (some 2) (.mov (.c (.b false)))])
    (.ret))
    (.skip)))
    (.seq (.reg .reg [.op (some 2) (.mov (.c (.b true)))])
    (.ret))))))))))⟩
theorem B_laws_FnExactHouseOk_ok : checkFn Try.prog Try.f9 B_laws_FnExactHouseOk.toA = true := by kernel_rfl
theorem B_laws_FnExactHouseOk_wf : B_laws_FnExactHouseOk.body.wf = true := by kernel_rfl
theorem okFn_laws_FnExactHouseOk : okFn Try.prog 9 = true := by kernel_rfl
def F_laws_FnExactHouseOk (N : Nat) (a0 : DHouse) : Option Bool :=
  chk (P_laws_szHouse N a0 (1048576 : Int)) <|
  bif (ilt (G_laws_szHouse N a0 (1048576 : Int)) (0 : Int)) then
    some true
  else
    let r1 : DHouse := (G_laws_toHouse N a0)
    chk (P_laws_toHouse N a0) <|
    chk (P_spec_HouseOk N r1) <|
    let r2 : DHouse := (G_laws_toHouse N a0)
    chk (P_laws_toHouse N a0) <|
    chk (P_impl_HouseOk N r2) <|
    bif (!((G_impl_HouseOk N r2) == (G_spec_HouseOk N r1))) then
      some false
    else
      let r3 : DHouse := (G_laws_toHouse N a0)
      chk (P_laws_toHouse N a0) <|
      chk (P_laws_eqHouse N r2 r3) <|
      bif (!(G_laws_eqHouse N r2 r3)) then
        some false
      else
        some true
theorem F_laws_FnExactHouseOk_run (N : Nat) (a0 : DHouse) :
    runF (O_laws_FnExactHouseOk N) N B_laws_FnExactHouseOk R_laws_FnExactHouseOk (vals T_laws_FnExactHouseOk a0) = F_laws_FnExactHouseOk N a0 := by kernel_rfl
def P_laws_FnExactHouseOk (N : Nat) (a0 : DHouse) : Bool := lock (F_laws_FnExactHouseOk N a0).isSome
def G_laws_FnExactHouseOk (N : Nat) (a0 : DHouse) : Bool := lock ((F_laws_FnExactHouseOk N a0).getD false)
theorem FG_laws_FnExactHouseOk {N : Nat} (a0 : DHouse) (h : P_laws_FnExactHouseOk N a0 = true) : F_laws_FnExactHouseOk N a0 = some (G_laws_FnExactHouseOk N a0) := by unfold P_laws_FnExactHouseOk at h; unfold G_laws_FnExactHouseOk; rw [lock_eq] at h ⊢; exact some_of_isSome h
theorem PG_laws_FnExactHouseOk {N : Nat} {a0 : DHouse} {v : Bool} (h : F_laws_FnExactHouseOk N a0 = some v) : P_laws_FnExactHouseOk N a0 = true ∧ G_laws_FnExactHouseOk N a0 = v := by unfold P_laws_FnExactHouseOk G_laws_FnExactHouseOk; rw [h, lock_eq, lock_eq]; exact ⟨rfl, rfl⟩
def o_laws_FnExactHouseOk (N : Nat) : List V → Bool × V := mkO T_laws_FnExactHouseOk R_laws_FnExactHouseOk (fun (x : DHouse) => P_laws_FnExactHouseOk N x) (fun (x : DHouse) => G_laws_FnExactHouseOk N x)
theorem laws_FnExactHouseOk_entry (N : Nat) : Entry Try.prog 9 (o_laws_FnExactHouseOk N) := Entry.of fun (x : DHouse) h =>
  Pf.of_run hm Try.func9 okFn_laws_FnExactHouseOk B_laws_FnExactHouseOk_ok B_laws_FnExactHouseOk_wf (O_laws_FnExactHouseOk_ok N) rfl ((F_laws_FnExactHouseOk_run N x).trans (FG_laws_FnExactHouseOk x h))
end
end Go.Proofs.Ytamnlngihccgiaa.AM
