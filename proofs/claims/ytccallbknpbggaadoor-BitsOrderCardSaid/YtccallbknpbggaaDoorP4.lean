/- Texts of the proof: BitsC, AmV, AmR, BitsE, BitsS2, RefF1, BitsL1, BitsL2. -/
import Derived.Test.YtccallbknpbggaaDoorP0
import Derived.Test.YtccallbknpbggaaDoorP1
import Derived.Test.YtccallbknpbggaaDoorP2
import Derived.Test.YtccallbknpbggaaDoorP3
import Derived.Test.YtccallbknpbggaaDoorProg
import Derived.KernelRfl
import Derived.ProofKit
import Derived.OpenShut
import Derived.ChangeArms
import Derived.FnData
import Derived.DataReads
import Derived.ChangeOld
import Derived.LaidMore
import Derived.Stop.Joined
import Derived.SevenTiedAt
import Derived.Test.YtccallbknpbggaaDoorRows
import Derived.Test.YtccallbknpbggaaDoorCards
import Derived.Test.YtccallbknpbggaaDoorTie
set_option linter.all false
set_option maxRecDepth 100000
namespace Go.Proofs.YtccallbknpbggaaDoor
open Go.AM
def c_gnomonlaw01_wakes : ACFun := { ntmps := 42, results := [(.tmp 0)], body :=
  (.seq (.region [
    ⟨some 0, (.move (.c (.s (.bool false)))), none⟩] [] [])
  (.seq (.region [
    ⟨some 2, (.buildSl 1 4 [(.s (.int .i64 0)), (.s (.int .i64 0)), (.s (.int .i64 0)), (.s (.int .i64 0))] [(0, (.c (.s (.int .i64 3)))), (1, (.c (.s (.int .i64 1)))), (2, (.c (.s (.int .i64 3)))), (3, (.c (.s (.int .i64 (-1)))))]), none⟩,
    ⟨some 3, (.call (.c (.fn 11 [] [])) [(.t 2)]), none⟩,
    ⟨some 1, (.move (.t 3)), none⟩] [] [])
  (.seq (.region [
    ⟨some 4, (.move (.t 1)), none⟩,
    ⟨some 5, (.call (.c (.fn 20 [] [])) [(.t 4)]), none⟩,
    ⟨some 6, (.bin .eql (.t 5) (.c (.s (.int .i64 2)))), none⟩,
    ⟨some 7, (.move (.t 6)), none⟩,
    ⟨some 8, (.move (.t 1)), some (7, true)⟩,
    ⟨some 9, (.call (.c (.fn 16 [] [])) [(.t 8)]), some (7, true)⟩,
    ⟨some 10, (.buildSl 1 2 [(.s (.int .i64 0)), (.s (.int .i64 0))] [(0, (.c (.s (.int .i64 1)))), (1, (.c (.s (.int .i64 3))))]), some (7, true)⟩,
    ⟨some 11, (.call (.c (.fn 15 [] [])) [(.t 9), (.t 10)]), some (7, true)⟩,
    ⟨some 12, (.pick (.t 7) (.t 11) (.c (.s (.bool false)))), none⟩,
    ⟨some 13, (.move (.t 12)), none⟩,
    ⟨some 14, (.move (.t 1)), some (13, true)⟩,
    ⟨some 15, (.call (.c (.fn 19 [] [])) [(.t 14), (.c (.s (.int .i64 3)))]), some (13, true)⟩,
    ⟨some 16, (.pick (.t 13) (.t 15) (.c (.s (.bool false)))), none⟩,
    ⟨some 17, (.move (.t 16)), none⟩,
    ⟨some 18, (.move (.t 1)), some (17, true)⟩,
    ⟨some 19, (.call (.c (.fn 19 [] [])) [(.t 18), (.c (.s (.int .i64 (-1))))]), some (17, true)⟩,
    ⟨some 20, (.un .not (.t 19)), some (17, true)⟩,
    ⟨some 21, (.pick (.t 17) (.t 20) (.c (.s (.bool false)))), none⟩,
    ⟨some 22, (.move (.t 21)), none⟩,
    ⟨some 23, (.move (.t 1)), some (22, true)⟩,
    ⟨some 24, (.call (.c (.fn 12 [] [])) [(.t 23), (.c (.s (.int .i64 2)))]), some (22, true)⟩,
    ⟨some 25, (.pick (.t 22) (.t 24) (.c (.s (.bool false)))), none⟩,
    ⟨some 26, (.move (.t 25)), none⟩,
    ⟨some 27, (.move (.t 1)), some (26, true)⟩,
    ⟨some 28, (.call (.c (.fn 12 [] [])) [(.t 27), (.c (.s (.int .i64 2)))]), some (26, true)⟩,
    ⟨some 29, (.un .not (.t 28)), some (26, true)⟩,
    ⟨some 30, (.pick (.t 26) (.t 29) (.c (.s (.bool false)))), none⟩,
    ⟨some 31, (.move (.t 30)), none⟩,
    ⟨some 32, (.move (.t 1)), some (31, true)⟩,
    ⟨some 33, (.buildSl 1 1 [(.s (.int .i64 0))] [(0, (.c (.s (.int .i64 1099511627776))))]), some (31, true)⟩,
    ⟨some 34, (.call (.c (.fn 11 [] [])) [(.t 33)]), some (31, true)⟩,
    ⟨some 35, (.call (.c (.fn 24 [] [])) [(.t 32), (.t 34)]), some (31, true)⟩,
    ⟨some 36, (.pick (.t 31) (.t 35) (.c (.s (.bool false)))), none⟩,
    ⟨some 37, (.move (.t 36)), none⟩,
    ⟨some 38, (.move (.t 1)), some (37, true)⟩,
    ⟨some 39, (.call (.c (.fn 20 [] [])) [(.t 38)]), some (37, true)⟩,
    ⟨some 40, (.bin .eql (.t 39) (.c (.s (.int .i64 4)))), some (37, true)⟩,
    ⟨some 41, (.pick (.t 37) (.t 40) (.c (.s (.bool false)))), none⟩,
    ⟨some 0, (.move (.t 41)), none⟩] [] [])
  .ret))) }
def c_bits_Of_l0 : ACode :=
  (.seq (.region [
    ⟨some 12, (.bin .lss (.t 11) (.t 10)), none⟩] [] [])
  (.seq (.cond (.t 12)
    .skip
    (.exit 0))
  (.seq (.block 1
    (.seq (.region [
      ⟨some 13, (.indexAddr 1 (.t 9) (.t 11)), none⟩,
      ⟨some 14, (.load false 1 (.t 13)), none⟩,
      ⟨some 5, (.move (.t 14)), none⟩] [] [])
    (.region [
      ⟨some 15, (.move (.t 3)), none⟩,
      ⟨some 16, (.move (.t 5)), none⟩,
      ⟨some 17, (.call (.c (.fn 12 [] [])) [(.t 15), (.t 16)]), none⟩] [] [])))
  (.region [
    ⟨some 18, (.bin .add (.t 11) (.c (.s (.int .i64 1)))), none⟩,
    ⟨some 11, (.move (.t 18)), none⟩] [] []))))
def c_bits_Of_k0 : List Nat := [12, 13, 14, 5, 15, 16, 17, 18]
def c_bits_Of : ACFun := { ntmps := 20, results := [(.tmp 2)], body :=
  (.seq (.region [
    ⟨some 2, (.move (.c (.s (.pointer none)))), none⟩] [] [])
  (.seq (.region [
    ⟨some 6, .mapNew, none⟩,
    ⟨some 7, (.build [(.s (.map none)), (.s (.int .i64 0))] [(0, 1), (1, 1)] [(0, (.t 6))]), none⟩,
    ⟨some 8, (.box (.t 7)), none⟩,
    ⟨some 3, (.move (.t 8)), none⟩] [] [])
  (.seq (.seq (.region [
    ⟨some 9, (.move (.t 0)), none⟩,
    ⟨some 10, (.lenS .s (.t 9)), none⟩,
    ⟨some 11, (.move (.c (.s (.int .i64 0)))), none⟩] [] [])
  (.block 0
    (.loop c_bits_Of_k0 c_bits_Of_l0)))
  (.seq (.region [
    ⟨some 19, (.move (.t 3)), none⟩,
    ⟨some 2, (.move (.t 19)), none⟩] [] [])
  .ret)))) }
def c_bits_Set_Add : ACFun := { ntmps := 28, results := [(.tmp 4)], body :=
  (.seq (.region [
    ⟨some 4, (.move (.c (.s (.bool false)))), none⟩] [] [])
  (.seq (.seq (.region [
    ⟨some 5, (.move (.t 0)), none⟩,
    ⟨some 6, (.eqNil .p false (.t 5)), none⟩,
    ⟨some 7, (.move (.t 6)), none⟩,
    ⟨some 8, (.move (.t 1)), some (7, false)⟩,
    ⟨some 9, (.bin .lss (.t 8) (.c (.s (.int .i64 0)))), some (7, false)⟩,
    ⟨some 10, (.pick (.t 7) (.c (.s (.bool true))) (.t 9)), none⟩,
    ⟨some 11, (.move (.t 10)), none⟩,
    ⟨some 12, (.move (.t 0)), some (11, false)⟩,
    ⟨some 13, (.move (.t 1)), some (11, false)⟩,
    ⟨some 14, (.call (.c (.fn 19 [] [])) [(.t 12), (.t 13)]), some (11, false)⟩,
    ⟨some 15, (.pick (.t 11) (.c (.s (.bool true))) (.t 14)), none⟩] [] [])
  (.cond (.t 15)
    (.seq (.region [
      ⟨some 4, (.move (.c (.s (.bool false)))), none⟩] [] [])
    .ret)
    .skip))
  (.seq (.region [
    ⟨some 16, (.move (.t 0)), none⟩,
    ⟨some 17, (.move (.t 1)), none⟩,
    ⟨some 18, (.bin .shr (.t 17) (.c (.s (.int .u64 6)))), none⟩,
    ⟨some 19, (.move (.t 0)), none⟩,
    ⟨some 20, (.move (.t 1)), none⟩,
    ⟨some 21, (.bin .shr (.t 20) (.c (.s (.int .u64 6)))), none⟩,
    ⟨some 22, (.call (.c (.fn 32 [] [])) [(.t 19), (.t 21)]), none⟩,
    ⟨some 23, (.move (.t 1)), none⟩,
    ⟨some 24, (.bin .and (.t 23) (.c (.s (.int .i64 63)))), none⟩,
    ⟨some 25, (.bin .shl (.c (.s (.int .u64 1))) (.t 24)), none⟩,
    ⟨some 26, (.bin .or (.t 22) (.t 25)), none⟩,
    ⟨some 27, (.call (.c (.fn 31 [] [])) [(.t 16), (.t 18), (.t 26)]), none⟩] [] [])
  (.seq (.region [
    ⟨some 4, (.move (.c (.s (.bool true)))), none⟩] [] [])
  .ret)))) }
def c_gnomonref01_Same_l0 : ACode :=
  (.seq (.seq (.region [
    ⟨some 11, (.move (.t 5)), none⟩,
    ⟨some 12, (.move (.t 0)), none⟩,
    ⟨some 13, (.lenS .s (.t 12)), none⟩,
    ⟨some 14, (.bin .lss (.t 11) (.t 13)), none⟩] [] [])
  (.cond (.t 14)
    .skip
    (.exit 0)))
  (.seq (.block 1
    (.seq (.region [
      ⟨some 17, (.move (.t 0)), none⟩,
      ⟨some 18, (.move (.t 5)), none⟩,
      ⟨some 19, (.indexAddr 1 (.t 17) (.t 18)), none⟩,
      ⟨some 20, (.load false 1 (.t 19)), none⟩,
      ⟨some 21, (.move (.t 1)), none⟩,
      ⟨some 22, (.move (.t 5)), none⟩,
      ⟨some 23, (.indexAddr 1 (.t 21) (.t 22)), none⟩,
      ⟨some 24, (.load false 1 (.t 23)), none⟩,
      ⟨some 25, (.bin .neq (.t 20) (.t 24)), none⟩] [] [])
    (.cond (.t 25)
      (.seq (.region [
        ⟨some 4, (.move (.c (.s (.bool false)))), none⟩] [] [])
      .ret)
      .skip)))
  (.region [
    ⟨some 15, (.move (.t 5)), none⟩,
    ⟨some 16, (.bin .add (.t 15) (.c (.s (.int .i64 1)))), none⟩,
    ⟨some 5, (.move (.t 16)), none⟩] [] [])))
def c_gnomonref01_Same_k0 : List Nat := [11, 12, 13, 14, 17, 18, 19, 20, 21, 22, 23, 24, 25, 15, 16]
def c_gnomonref01_Same : ACFun := { ntmps := 26, results := [(.tmp 4)], body :=
  (.seq (.region [
    ⟨some 4, (.move (.c (.s (.bool false)))), none⟩] [] [])
  (.seq (.seq (.region [
    ⟨some 6, (.move (.t 0)), none⟩,
    ⟨some 7, (.lenS .s (.t 6)), none⟩,
    ⟨some 8, (.move (.t 1)), none⟩,
    ⟨some 9, (.lenS .s (.t 8)), none⟩,
    ⟨some 10, (.bin .neq (.t 7) (.t 9)), none⟩] [] [])
  (.cond (.t 10)
    (.seq (.region [
      ⟨some 4, (.move (.c (.s (.bool false)))), none⟩] [] [])
    .ret)
    .skip))
  (.seq (.seq (.region [
    ⟨some 5, (.move (.c (.s (.int .i64 0)))), none⟩] [] [])
  (.block 0
    (.loop c_gnomonref01_Same_k0 c_gnomonref01_Same_l0)))
  (.seq (.region [
    ⟨some 4, (.move (.c (.s (.bool true)))), none⟩] [] [])
  .ret)))) }
def c_bits_Set_List_l0 : ACode :=
  (.seq (.seq (.region [
    ⟨some 10, (.move (.t 5)), none⟩,
    ⟨some 11, (.bin .neq (.t 10) (.c (.s (.int .u64 0)))), none⟩] [] [])
  (.cond (.t 11)
    .skip
    (.exit 2)))
  (.seq (.block 3
    (.region [
      ⟨some 16, (.load false 1 (.t 3)), none⟩,
      ⟨some 17, (.move (.t 4)), none⟩,
      ⟨some 18, (.bin .shl (.t 17) (.c (.s (.int .u64 6)))), none⟩,
      ⟨some 19, (.move (.t 5)), none⟩,
      ⟨some 20, (.callR (.c (.fn 34 [] [])) [(.t 19)]), none⟩,
      ⟨some 21, (.bin .or (.t 18) (.t 20)), none⟩,
      ⟨some 22, (.buildSl 1 1 [(.s (.int .i64 0))] [(0, (.t 21))]), none⟩,
      ⟨some 23, (.append 1 8 (.t 16) (.t 22)), none⟩,
      ⟨none, (.store 1 (.t 3) (.t 23)), none⟩] [] []))
  (.region [
    ⟨some 12, (.move (.t 5)), none⟩,
    ⟨some 13, (.move (.t 5)), none⟩,
    ⟨some 14, (.bin .sub (.t 13) (.c (.s (.int .u64 1)))), none⟩,
    ⟨some 15, (.bin .and (.t 12) (.t 14)), none⟩,
    ⟨some 5, (.move (.t 15)), none⟩] [] [])))
def c_bits_Set_List_k0 : List Nat := [10, 11, 16, 17, 18, 19, 20, 21, 22, 23, 12, 13, 14, 15]
def c_bits_Set_List_a1 : ACode :=
  (.seq (.region [
    ⟨some 4, (.move (.t 8)), none⟩] [] [])
  (.region [
    ⟨some 5, (.move (.t 9)), none⟩] [] []))
def c_bits_Set_List_b1 : ACode :=
  (.block 1
    (.block 2
      (.loop c_bits_Set_List_k0 c_bits_Set_List_l0)))
def c_bits_Set_List : ACFun := { ntmps := 25, results := [(.tmp 2)], body :=
  (.seq (.region [
    ⟨some 2, (.move (.c (.s (.slice none 0 0)))), none⟩] [] [])
  (.seq (.region [
    ⟨some 3, (.alloc [(.s (.slice none 0 0))]), none⟩] [] [])
  (.seq (.seq (.region [
    ⟨some 6, (.move (.t 0)), none⟩,
    ⟨some 7, (.call (.c (.fn 33 [] [])) [(.t 6)]), none⟩] [] [])
  (.block 0
    (.rangeFunc (.t 7) [8, 9] c_bits_Set_List_a1 c_bits_Set_List_b1)))
  (.seq (.region [
    ⟨some 24, (.load false 1 (.t 3)), none⟩,
    ⟨some 2, (.move (.t 24)), none⟩] [] [])
  .ret)))) }
def c_bits_Set_Has : ACFun := { ntmps := 18, results := [(.tmp 4)], body :=
  (.seq (.region [
    ⟨some 4, (.move (.c (.s (.bool false)))), none⟩] [] [])
  (.seq (.region [
    ⟨some 5, (.move (.t 1)), none⟩,
    ⟨some 6, (.bin .geq (.t 5) (.c (.s (.int .i64 0)))), none⟩,
    ⟨some 7, (.move (.t 6)), none⟩,
    ⟨some 8, (.move (.t 0)), some (7, true)⟩,
    ⟨some 9, (.move (.t 1)), some (7, true)⟩,
    ⟨some 10, (.bin .shr (.t 9) (.c (.s (.int .u64 6)))), some (7, true)⟩,
    ⟨some 11, (.call (.c (.fn 32 [] [])) [(.t 8), (.t 10)]), some (7, true)⟩,
    ⟨some 12, (.move (.t 1)), some (7, true)⟩,
    ⟨some 13, (.bin .and (.t 12) (.c (.s (.int .i64 63)))), some (7, true)⟩,
    ⟨some 14, (.bin .shr (.t 11) (.t 13)), some (7, true)⟩,
    ⟨some 15, (.bin .and (.t 14) (.c (.s (.int .u64 1)))), some (7, true)⟩,
    ⟨some 16, (.bin .eql (.t 15) (.c (.s (.int .u64 1)))), some (7, true)⟩,
    ⟨some 17, (.pick (.t 7) (.t 16) (.c (.s (.bool false)))), none⟩,
    ⟨some 4, (.move (.t 17)), none⟩] [] [])
  .ret)) }
def c_bits_Set_Len : ACFun := { ntmps := 9, results := [(.tmp 2)], body :=
  (.seq (.region [
    ⟨some 2, (.move (.c (.s (.int .i64 0)))), none⟩] [] [])
  (.seq (.seq (.region [
    ⟨some 3, (.move (.t 0)), none⟩,
    ⟨some 4, (.eqNil .p false (.t 3)), none⟩] [] [])
  (.cond (.t 4)
    (.seq (.region [
      ⟨some 2, (.move (.c (.s (.int .i64 0)))), none⟩] [] [])
    .ret)
    .skip))
  (.seq (.region [
    ⟨some 5, (.move (.t 0)), none⟩,
    ⟨some 6, (.nilCheck (.t 5)), none⟩,
    ⟨some 7, (.fieldAddr 1 (.t 6)), none⟩,
    ⟨some 8, (.load false 1 (.t 7)), none⟩,
    ⟨some 2, (.move (.t 8)), none⟩] [] [])
  .ret))) }
def c_bits_Set_Union_a0 : ACode :=
  (.seq (.region [
    ⟨some 6, (.move (.t 16)), none⟩] [] [])
  (.region [
    ⟨some 7, (.move (.t 17)), none⟩] [] []))
def c_bits_Set_Union_b0 : ACode :=
  (.block 1
    (.region [
      ⟨some 18, (.load false 1 (.t 2)), none⟩,
      ⟨some 19, (.move (.t 6)), none⟩,
      ⟨some 20, (.load false 1 (.t 2)), none⟩,
      ⟨some 21, (.move (.t 6)), none⟩,
      ⟨some 22, (.callR (.c (.fn 32 [] [])) [(.t 20), (.t 21)]), none⟩,
      ⟨some 23, (.move (.t 7)), none⟩,
      ⟨some 24, (.bin .or (.t 22) (.t 23)), none⟩,
      ⟨some 25, (.call (.c (.fn 31 [] [])) [(.t 18), (.t 19), (.t 24)]), none⟩] [] []))
def c_bits_Set_Union : ACFun := { ntmps := 32, results := [(.tmp 4)], body :=
  (.seq (.region [
    ⟨some 2, (.box (.t 0)), none⟩,
    ⟨some 4, (.move (.c (.s (.bool false)))), none⟩] [] [])
  (.seq (.seq (.region [
    ⟨some 8, (.load false 1 (.t 2)), none⟩,
    ⟨some 9, (.eqNil .p false (.t 8)), none⟩] [] [])
  (.cond (.t 9)
    (.seq (.region [
      ⟨some 4, (.move (.c (.s (.bool false)))), none⟩] [] [])
    .ret)
    .skip))
  (.seq (.region [
    ⟨some 10, (.load false 1 (.t 2)), none⟩,
    ⟨some 11, (.nilCheck (.t 10)), none⟩,
    ⟨some 12, (.fieldAddr 1 (.t 11)), none⟩,
    ⟨some 13, (.load false 1 (.t 12)), none⟩,
    ⟨some 5, (.move (.t 13)), none⟩] [] [])
  (.seq (.seq (.region [
    ⟨some 14, (.move (.t 1)), none⟩,
    ⟨some 15, (.call (.c (.fn 33 [] [])) [(.t 14)]), none⟩] [] [])
  (.block 0
    (.rangeFunc (.t 15) [16, 17] c_bits_Set_Union_a0 c_bits_Set_Union_b0)))
  (.seq (.region [
    ⟨some 26, (.load false 1 (.t 2)), none⟩,
    ⟨some 27, (.nilCheck (.t 26)), none⟩,
    ⟨some 28, (.fieldAddr 1 (.t 27)), none⟩,
    ⟨some 29, (.load false 1 (.t 28)), none⟩,
    ⟨some 30, (.move (.t 5)), none⟩,
    ⟨some 31, (.bin .gtr (.t 29) (.t 30)), none⟩,
    ⟨some 4, (.move (.t 31)), none⟩] [] [])
  .ret))))) }
def c_bits_Set_put : ACFun := { ntmps := 36, results := [], body :=
  (.seq (.region [
    ⟨some 6, (.move (.t 0)), none⟩,
    ⟨some 7, (.nilCheck (.t 6)), none⟩,
    ⟨some 8, (.fieldAddr 1 (.t 7)), none⟩,
    ⟨some 9, (.load false 1 (.t 8)), none⟩,
    ⟨some 10, (.move (.t 2)), none⟩,
    ⟨some 11, (.callR (.c (.fn 40 [] [])) [(.t 10)]), none⟩,
    ⟨some 12, (.move (.t 0)), none⟩,
    ⟨some 13, (.nilCheck (.t 12)), none⟩,
    ⟨some 14, (.fieldAddr 0 (.t 13)), none⟩,
    ⟨some 15, (.load false 1 (.t 14)), none⟩,
    ⟨some 16, (.move (.t 1)), none⟩,
    ⟨some 17, (.mapGet (.int .i64) (.s (.int .u64 0)) (.t 15) (.t 16) false), none⟩,
    ⟨some 18, (.callR (.c (.fn 40 [] [])) [(.t 17)]), none⟩,
    ⟨some 19, (.bin .sub (.t 11) (.t 18)), none⟩,
    ⟨some 20, (.bin .add (.t 9) (.t 19)), none⟩,
    ⟨some 21, (.nilCheck (.t 6)), none⟩,
    ⟨some 22, (.fieldAddr 1 (.t 21)), none⟩,
    ⟨none, (.store 1 (.t 22) (.t 20)), none⟩] [] [])
  (.seq (.region [
    ⟨some 23, (.move (.t 2)), none⟩,
    ⟨some 24, (.bin .eql (.t 23) (.c (.s (.int .u64 0)))), none⟩] [] [])
  (.cond (.t 24)
    (.region [
      ⟨some 25, (.move (.t 0)), none⟩,
      ⟨some 26, (.nilCheck (.t 25)), none⟩,
      ⟨some 27, (.fieldAddr 0 (.t 26)), none⟩,
      ⟨some 28, (.load false 1 (.t 27)), none⟩,
      ⟨some 29, (.move (.t 1)), none⟩,
      ⟨none, (.delete (.int .i64) (.t 28) (.t 29)), none⟩] [] [])
    (.region [
      ⟨some 30, (.move (.t 0)), none⟩,
      ⟨some 31, (.nilCheck (.t 30)), none⟩,
      ⟨some 32, (.fieldAddr 0 (.t 31)), none⟩,
      ⟨some 33, (.load false 1 (.t 32)), none⟩,
      ⟨some 34, (.move (.t 1)), none⟩,
      ⟨some 35, (.move (.t 2)), none⟩,
      ⟨none, (.mapUpd (.int .i64) (.t 33) (.t 34) (.t 35)), none⟩] [] [])))) }
def c_bits_Set_at : ACFun := { ntmps := 13, results := [(.tmp 4)], body :=
  (.seq (.region [
    ⟨some 4, (.move (.c (.s (.int .u64 0)))), none⟩] [] [])
  (.seq (.seq (.region [
    ⟨some 5, (.move (.t 0)), none⟩,
    ⟨some 6, (.eqNil .p false (.t 5)), none⟩] [] [])
  (.cond (.t 6)
    (.seq (.region [
      ⟨some 4, (.move (.c (.s (.int .u64 0)))), none⟩] [] [])
    .ret)
    .skip))
  (.seq (.region [
    ⟨some 7, (.move (.t 0)), none⟩,
    ⟨some 8, (.nilCheck (.t 7)), none⟩,
    ⟨some 9, (.fieldAddr 0 (.t 8)), none⟩,
    ⟨some 10, (.load false 1 (.t 9)), none⟩,
    ⟨some 11, (.move (.t 1)), none⟩,
    ⟨some 12, (.mapGet (.int .i64) (.s (.int .u64 0)) (.t 10) (.t 11) false), none⟩,
    ⟨some 4, (.move (.t 12)), none⟩] [] [])
  .ret))) }
def c_bits_Set_all : ACFun := { ntmps := 4, results := [(.tmp 2)], body :=
  (.seq (.region [
    ⟨some 1, (.box (.t 0)), none⟩,
    ⟨some 2, (.move (.c (.s .nilFunc))), none⟩] [] [])
  (.seq (.region [
    ⟨some 3, (.mkFn 41 [] [(.t 1)]), none⟩,
    ⟨some 2, (.move (.t 3)), none⟩] [] [])
  .ret)) }
def c_math_bits_OnesCount64 : ACFun := { ntmps := 35, results := [(.tmp 2)], body :=
  (.seq (.region [
    ⟨some 2, (.move (.c (.s (.int .i64 0)))), none⟩] [] [])
  (.seq (.region [
    ⟨some 3, (.move (.t 0)), none⟩,
    ⟨some 4, (.bin .shr (.t 3) (.c (.s (.int .u64 1)))), none⟩,
    ⟨some 5, (.bin .and (.t 4) (.c (.s (.int .u64 6148914691236517205)))), none⟩,
    ⟨some 6, (.move (.t 0)), none⟩,
    ⟨some 7, (.bin .and (.t 6) (.c (.s (.int .u64 6148914691236517205)))), none⟩,
    ⟨some 8, (.bin .add (.t 5) (.t 7)), none⟩,
    ⟨some 0, (.move (.t 8)), none⟩] [] [])
  (.seq (.region [
    ⟨some 9, (.move (.t 0)), none⟩,
    ⟨some 10, (.bin .shr (.t 9) (.c (.s (.int .u64 2)))), none⟩,
    ⟨some 11, (.bin .and (.t 10) (.c (.s (.int .u64 3689348814741910323)))), none⟩,
    ⟨some 12, (.move (.t 0)), none⟩,
    ⟨some 13, (.bin .and (.t 12) (.c (.s (.int .u64 3689348814741910323)))), none⟩,
    ⟨some 14, (.bin .add (.t 11) (.t 13)), none⟩,
    ⟨some 0, (.move (.t 14)), none⟩] [] [])
  (.seq (.region [
    ⟨some 15, (.move (.t 0)), none⟩,
    ⟨some 16, (.bin .shr (.t 15) (.c (.s (.int .u64 4)))), none⟩,
    ⟨some 17, (.move (.t 0)), none⟩,
    ⟨some 18, (.bin .add (.t 16) (.t 17)), none⟩,
    ⟨some 19, (.bin .and (.t 18) (.c (.s (.int .u64 1085102592571150095)))), none⟩,
    ⟨some 0, (.move (.t 19)), none⟩] [] [])
  (.seq (.region [
    ⟨some 20, (.move (.t 0)), none⟩,
    ⟨some 21, (.move (.t 0)), none⟩,
    ⟨some 22, (.bin .shr (.t 21) (.c (.s (.int .u64 8)))), none⟩,
    ⟨some 23, (.bin .add (.t 20) (.t 22)), none⟩,
    ⟨some 0, (.move (.t 23)), none⟩] [] [])
  (.seq (.region [
    ⟨some 24, (.move (.t 0)), none⟩,
    ⟨some 25, (.move (.t 0)), none⟩,
    ⟨some 26, (.bin .shr (.t 25) (.c (.s (.int .u64 16)))), none⟩,
    ⟨some 27, (.bin .add (.t 24) (.t 26)), none⟩,
    ⟨some 0, (.move (.t 27)), none⟩] [] [])
  (.seq (.region [
    ⟨some 28, (.move (.t 0)), none⟩,
    ⟨some 29, (.move (.t 0)), none⟩,
    ⟨some 30, (.bin .shr (.t 29) (.c (.s (.int .u64 32)))), none⟩,
    ⟨some 31, (.bin .add (.t 28) (.t 30)), none⟩,
    ⟨some 0, (.move (.t 31)), none⟩] [] [])
  (.seq (.region [
    ⟨some 32, (.move (.t 0)), none⟩,
    ⟨some 33, (.conv .i64 (.t 32)), none⟩,
    ⟨some 34, (.bin .and (.t 33) (.c (.s (.int .i64 127)))), none⟩,
    ⟨some 2, (.move (.t 34)), none⟩] [] [])
  .ret)))))))) }
def c_bits_Set_all_1_l0 : ACode :=
  (.seq (.region [
    ⟨some 15, (.bin .lss (.t 14) (.t 13)), none⟩] [] [])
  (.seq (.cond (.t 15)
    .skip
    (.exit 0))
  (.seq (.block 1
    (.seq (.region [
      ⟨some 16, (.indexAddr 1 (.t 12) (.t 14)), none⟩,
      ⟨some 17, (.load false 1 (.t 16)), none⟩,
      ⟨some 4, (.move (.t 17)), none⟩] [] [])
    (.seq (.region [
      ⟨some 18, (.move (.t 0)), none⟩,
      ⟨some 19, (.move (.t 4)), none⟩,
      ⟨some 20, (.load false 1 (.t 1)), none⟩,
      ⟨some 21, (.nilCheck (.t 20)), none⟩,
      ⟨some 22, (.fieldAddr 0 (.t 21)), none⟩,
      ⟨some 23, (.load false 1 (.t 22)), none⟩,
      ⟨some 24, (.move (.t 4)), none⟩,
      ⟨some 25, (.mapGet (.int .i64) (.s (.int .u64 0)) (.t 23) (.t 24) false), none⟩,
      ⟨some 26, (.call (.t 18) [(.t 19), (.t 25)]), none⟩,
      ⟨some 27, (.un .not (.t 26)), none⟩] [] [])
    (.cond (.t 27)
      .ret
      .skip))))
  (.region [
    ⟨some 28, (.bin .add (.t 14) (.c (.s (.int .i64 1)))), none⟩,
    ⟨some 14, (.move (.t 28)), none⟩] [] []))))
def c_bits_Set_all_1_k0 : List Nat := [15, 16, 17, 4, 18, 19, 20, 21, 22, 23, 24, 25, 26, 27, 28]
def c_bits_Set_all_1 : ACFun := { ntmps := 29, results := [], body :=
  (.seq (.seq (.region [
    ⟨some 5, (.load false 1 (.t 1)), none⟩,
    ⟨some 6, (.eqNil .p false (.t 5)), none⟩] [] [])
  (.cond (.t 6)
    .ret
    .skip))
  (.seq (.region [
    ⟨some 7, (.load false 1 (.t 1)), none⟩,
    ⟨some 8, (.nilCheck (.t 7)), none⟩,
    ⟨some 9, (.fieldAddr 0 (.t 8)), none⟩,
    ⟨some 10, (.load false 1 (.t 9)), none⟩,
    ⟨some 11, (.call (.c (.fn 43 [] [])) [(.t 10)]), none⟩,
    ⟨some 12, (.call (.c (.fn 42 [] [])) [(.t 11)]), none⟩,
    ⟨some 13, (.lenS .s (.t 12)), none⟩,
    ⟨some 14, (.move (.c (.s (.int .i64 0)))), none⟩] [] [])
  (.block 0
    (.loop c_bits_Set_all_1_k0 c_bits_Set_all_1_l0)))) }
def c_maps_Keys_map_int_uint64_int_uint64 : ACFun := { ntmps := 4, results := [(.tmp 2)], body :=
  (.seq (.region [
    ⟨some 1, (.box (.t 0)), none⟩,
    ⟨some 2, (.move (.c (.s .nilFunc))), none⟩] [] [])
  (.seq (.region [
    ⟨some 3, (.mkFn 47 [] [(.t 1)]), none⟩,
    ⟨some 2, (.move (.t 3)), none⟩] [] [])
  .ret)) }
def CQ : Nat → Option CFun
  | 10 => some (.code c_gnomonlaw01_wakes)
  | 11 => some (.code c_bits_Of)
  | 12 => some (.code c_bits_Set_Add)
  | 15 => some (.code c_gnomonref01_Same)
  | 16 => some (.code c_bits_Set_List)
  | 19 => some (.code c_bits_Set_Has)
  | 20 => some (.code c_bits_Set_Len)
  | 24 => some (.code c_bits_Set_Union)
  | 31 => some (.code c_bits_Set_put)
  | 32 => some (.code c_bits_Set_at)
  | 33 => some (.code c_bits_Set_all)
  | 40 => some (.code c_math_bits_OnesCount64)
  | 41 => some (.code c_bits_Set_all_1)
  | 43 => some (.code c_maps_Keys_map_int_uint64_int_uint64)
  | _ => none
theorem CQ_10 : compK Tryd.prog PX0 10 = some (false, c_gnomonlaw01_wakes.ntmps, c_gnomonlaw01_wakes.results, c_gnomonlaw01_wakes.body.bare) := by kernel_rfl
theorem CQ_11 : compK Tryd.prog PX0 11 = some (false, c_bits_Of.ntmps, c_bits_Of.results, c_bits_Of.body.bare) := by kernel_rfl
theorem CQ_12 : compK Tryd.prog PX0 12 = some (false, c_bits_Set_Add.ntmps, c_bits_Set_Add.results, c_bits_Set_Add.body.bare) := by kernel_rfl
theorem CQ_15 : compK Tryd.prog PX0 15 = some (false, c_gnomonref01_Same.ntmps, c_gnomonref01_Same.results, c_gnomonref01_Same.body.bare) := by kernel_rfl
theorem CQ_16 : compK Tryd.prog PX0 16 = some (false, c_bits_Set_List.ntmps, c_bits_Set_List.results, c_bits_Set_List.body.bare) := by kernel_rfl
theorem CQ_19 : compK Tryd.prog PX0 19 = some (false, c_bits_Set_Has.ntmps, c_bits_Set_Has.results, c_bits_Set_Has.body.bare) := by kernel_rfl
theorem CQ_20 : compK Tryd.prog PX0 20 = some (false, c_bits_Set_Len.ntmps, c_bits_Set_Len.results, c_bits_Set_Len.body.bare) := by kernel_rfl
theorem CQ_24 : compK Tryd.prog PX0 24 = some (false, c_bits_Set_Union.ntmps, c_bits_Set_Union.results, c_bits_Set_Union.body.bare) := by kernel_rfl
theorem CQ_31 : compK Tryd.prog PX0 31 = some (false, c_bits_Set_put.ntmps, c_bits_Set_put.results, c_bits_Set_put.body.bare) := by kernel_rfl
theorem CQ_32 : compK Tryd.prog PX0 32 = some (false, c_bits_Set_at.ntmps, c_bits_Set_at.results, c_bits_Set_at.body.bare) := by kernel_rfl
theorem CQ_33 : compK Tryd.prog PX0 33 = some (false, c_bits_Set_all.ntmps, c_bits_Set_all.results, c_bits_Set_all.body.bare) := by kernel_rfl
theorem CQ_40 : compK Tryd.prog PX0 40 = some (false, c_math_bits_OnesCount64.ntmps, c_math_bits_OnesCount64.results, c_math_bits_OnesCount64.body.bare) := by kernel_rfl
theorem CQ_41 : compK Tryd.prog PX0 41 = some (false, c_bits_Set_all_1.ntmps, c_bits_Set_all_1.results, c_bits_Set_all_1.body.bare) := by kernel_rfl
theorem CQ_43 : compK Tryd.prog PX0 43 = some (false, c_maps_Keys_map_int_uint64_int_uint64.ntmps, c_maps_Keys_map_int_uint64_int_uint64.results, c_maps_Keys_map_int_uint64_int_uint64.body.bare) := by kernel_rfl
theorem CQ_ok (fx : Nat → Option (Array Value × TypeId × Nat × Nat)) : ∀ k c, CQ k = some c → FunOk Tryd.prog (PXf fx) k c := by
  intro k c h
  unfold CQ at h
  split at h
  · cases h; exact funOk_f fx CQ_10
  · cases h; exact funOk_f fx CQ_11
  · cases h; exact funOk_f fx CQ_12
  · cases h; exact funOk_f fx CQ_15
  · cases h; exact funOk_f fx CQ_16
  · cases h; exact funOk_f fx CQ_19
  · cases h; exact funOk_f fx CQ_20
  · cases h; exact funOk_f fx CQ_24
  · cases h; exact funOk_f fx CQ_31
  · cases h; exact funOk_f fx CQ_32
  · cases h; exact funOk_f fx CQ_33
  · cases h; exact funOk_f fx CQ_40
  · cases h; exact funOk_f fx CQ_41
  · cases h; exact funOk_f fx CQ_43
  · cases h
def CQp (k : Nat) : Option CFun := if k = 42 then some (.prim (sortedG 47)) else if k = 34 then some (.prim tzG) else CQ k
theorem checks_true : givesE CQp 300 10 = some (bl true) := by kernel_rfl
end Go.Proofs.YtccallbknpbggaaDoor
namespace Go.AM
open Go.RowKit
theorem tab_laid {P : Program} {W : World} {name : String} {g : Nat} {t e : TypeId} {tab : List Nat} (hg : P.globalNamed name = some g) (ht : (P.globals[g]?).map (·.type) = some t) (hu : P.underlying t = some (.array tab.length e)) (he : P.underlying e = some (.int .u8)) (hc : P.cellsOf e = 1) (h0 : 0 < tab.length)
    (h : laidMet P [(name, .agg (tab.map fun n => .lit (.int .u8 (n : Nat))))] W) : ∃ o : Array Value × TypeId × Nat × Nat, W.heap[g]? = some (.cells o.1 o.2.1 o.2.2) ∧ ∀ j, j < tab.length → o.1[j]? = some (.int .u8 ((tab.getD j 0 : Nat) : Int)) := by
  obtain ⟨ps, ⟨g0, t0, cs0, f0, p0, q0, hg0, ht0, hv0, hd0, _, _⟩, _, _⟩ := h
  obtain rfl := Option.some.inj (hg.symm.trans hg0)
  obtain rfl := Option.some.inj (ht.symm.trans ht0)
  have hcell := fun i => World.var?_cell hg hv0 i
  obtain ⟨xs, m1, rfl, hx1, hlen, hn3, hel⟩ := DataW.trod_array hu hd0
  simp only [Prod.mk.injEq, DataW.agg.injEq] at hx1
  rw [hc] at hel
  have key : ∀ j, j < tab.length → cs0[j]? = some (.int .u8 ((tab.getD j 0 : Nat) : Int)) := by
    intro j hj
    have h1 := hel j hj
    have hxj : xs[j]? = some xs[j] := List.getElem?_eq_getElem (by omega)
    rw [hxj] at h1
    obtain ⟨k, e1, e2, _⟩ := DataW.trod_int he h1
    have e3 : (tab.map fun n => (DataW.lit (.int .u8 (n : Nat)) : DataW Unit))[j]? = (xs.map (·.1))[j]? := by rw [hx1.1]
    rw [List.getElem?_map, List.getElem?_map, hxj, List.getElem?_eq_getElem hj, Option.map_some, Option.map_some, e2] at e3
    have hk : k = (tab[j] : Nat) := by simpa using e3.symm
    have e4 : cs0.toList[j]? = some (.int .u8 k) := by
      have : ((cs0.toList.drop (j * 1)).take 1)[0]? = some (.int .u8 k) := by rw [e1]; rfl
      rw [List.getElem?_take_of_lt (by omega), List.getElem?_drop] at this
      simpa using this
    rw [Array.getElem?_toList] at e4
    rw [e4, hk]
    simp [List.getD, hj]
  have hc0 := hcell 0
  rw [key 0 h0] at hc0
  simp only [World.cell?] at hc0
  cases hh : W.heap[g]? with
  | none => rw [hh] at hc0; cases hc0
  | some ob =>
    cases ob with
    | cells arr ty fr =>
      refine ⟨(arr, ty, fr), rfl, fun j hj => ?_⟩
      have := hcell j
      rw [key j hj] at this
      simp only [World.cell?, hh] at this
      simpa using this
    | _ => rw [hh] at hc0; cases hc0
end Go.AM
namespace Go.AM
open Go.RowKit
inductive Ty where
  | int (k : IntKind) | bool | str
  | sl (e : Ty)
  | st (fs : List Ty)
  deriving Inhabited
mutual
def Ty.width : Ty → Nat
  | .int _ => 1
  | .bool => 1
  | .str => 1
  | .sl _ => 1
  | .st fs => widths fs
def widths : List Ty → Nat
  | [] => 0
  | f :: fs => f.width + widths fs
end
mutual
def tyOk (P : Program) : Nat → Ty → TypeId → Bool
  | 0, _, _ => false
  | n + 1, ty, t => match ty, P.underlying t with
    | .int k, some (.int k') => k == k'
    | .bool, some .bool => true
    | .str, some .string => true
    | .sl e, some (.slice e') => tyOk P n e e' && P.cellsOf e' == e.width && decide (0 < e.width)
    | .st fs, some (.struct gs) => P.cellsOf t == widths fs && tysOk P n 0 fs gs.toList
    | _, _ => false
def tysOk (P : Program) : Nat → Nat → List Ty → List Field → Bool
  | 0, _, _, _ => false
  | n + 1, off, fs, gs => match fs, gs with
    | [], [] => true
    | f :: fs, g :: gs => g.offset == off && P.cellsOf g.type == f.width && tyOk P n f g.type && tysOk P n (off + f.width) fs gs
    | _, _ => false
end
mutual
def IsV : Ty → List V → Prop
  | .int k, cs => ∃ n, cs = [.s (.int k n)] ∧ k.min ≤ n ∧ n ≤ k.max
  | .bool, cs => ∃ b, cs = [.s (.bool b)]
  | .str, cs => ∃ b, cs = [.s (.string b)] ∧ b.size ≤ maxLen
  | .sl e, cs => cs = [nilS] ∨ ∃ es : List (List V), cs = [.psl es e.width] ∧ es.length ≤ maxLen ∧ ∀ x ∈ es, IsV e x
  | .st fs, cs => IsVs fs cs
def IsVs : List Ty → List V → Prop
  | [], cs => cs = []
  | f :: fs, cs => ∃ a b, cs = a ++ b ∧ IsV f a ∧ IsVs fs b
end
mutual
theorem IsV.len : ∀ (t : Ty) {cs : List V}, IsV t cs → cs.length = t.width
  | .int _, cs, h => by obtain ⟨n, rfl, _⟩ := h; rfl
  | .bool, cs, h => by obtain ⟨n, rfl⟩ := h; rfl
  | .str, cs, h => by obtain ⟨n, rfl, _⟩ := h; rfl
  | .sl e, cs, h => by rcases h with rfl | ⟨es, rfl, _⟩ <;> rfl
  | .st fs, cs, h => IsVs.len fs h
theorem IsVs.len : ∀ (fs : List Ty) {cs : List V}, IsVs fs cs → cs.length = widths fs
  | [], cs, h => by cases h; rfl
  | f :: fs, cs, h => by
    obtain ⟨a, b, rfl, h1, h2⟩ := h
    rw [List.length_append, IsV.len f h1, IsVs.len fs h2]; rfl
end
abbrev PRs (w : World) (vs : List V) (cs : List Value) : Prop := vs.length = cs.length ∧ ∀ (i : Nat) (a : V) (b : Value), vs[i]? = some a → cs[i]? = some b → PR (fun _ => False) w a b
theorem PRs.app {w : World} {a b : List V} {c d : List Value} (h : PRs w a c) (k : PRs w b d) : PRs w (a ++ b) (c ++ d) := by
  refine ⟨by simp [h.1, k.1], fun i x y hx hy => ?_⟩
  by_cases hi : i < a.length
  · rw [List.getElem?_append_left hi] at hx
    rw [List.getElem?_append_left (by rw [← h.1]; exact hi)] at hy
    exact h.2 i x y hx hy
  · rw [List.getElem?_append_right (by omega)] at hx
    rw [List.getElem?_append_right (by rw [← h.1]; omega), ← h.1] at hy
    exact k.2 _ x y hx hy
theorem PRs.one {w : World} {a : V} {b : Value} (h : PR (fun _ => False) w a b) : PRs w [a] [b] := ⟨rfl, fun i x y hx hy => by
  cases i with
  | zero => simp at hx hy; rw [← hx, ← hy]; exact h
  | succ i => simp at hx⟩
theorem PRs.vrs {w : World} {vs : List V} {cs : List Value} (h : PRs w vs cs) : VRs (fun _ _ => none) (fun _ => False) w vs cs := ⟨h.1, fun i a b ha hb => (h.2 i a b ha hb).vr⟩
theorem mapM_fwd {α β : Type} {f : α → Option β} {l : List α} {us : List β} (h : l.mapM f = some us) : us.length = l.length ∧ ∀ (i : Nat) (v : α), l[i]? = some v → ∃ u, us[i]? = some u ∧ f v = some u := by
  obtain ⟨h1, h2⟩ := mapM_get2 h
  refine ⟨h1, fun i v hv => ?_⟩
  have hi : i < us.length := by rw [h1]; exact (List.getElem?_eq_some_iff.1 hv).1
  exact ⟨us[i], List.getElem?_eq_getElem hi, h2 i v _ hv (List.getElem?_eq_getElem hi)⟩
section
variable {H : Type} {enc : TypeId × Value → H} {P : Program} {w : World} {base : Nat} {sp : Nat → Bool} {held : Bool}
theorem add_block (a : Addr) (j : Nat) : (a.add j).block = a.block := by unfold Addr.add; split <;> rfl
theorem add_off {a : Addr} (h : a.spot = none) (j : Nat) : (a.add j).off = a.off + j := by
  unfold Addr.add
  split
  · rename_i e; subst e; rfl
  · rfl
theorem cells_row {a : Addr} {n : Nat} {cs : List Value} (h : w.cells? base a n = some cs) (hn : 0 < n) : ∃ arr e fr, w.heap[a.block]? = some (.cells arr e fr) ∧ a.spot = none ∧ cs.length = n ∧ a.off + n ≤ arr.size ∧ ∀ j, j < n → cs[j]? = arr[a.off + j]? := by
  unfold World.cells? at h
  split at h
  · obtain ⟨h1, h2⟩ := mapM_fwd h
    simp only [List.length_range] at h1
    have key : ∀ j, j < n → ∃ u, cs[j]? = some u ∧ w.cell? (a.add j) = some u := fun j hj => h2 j j (by simp [hj])
    obtain ⟨u0, _, hc0⟩ := key 0 hn
    unfold World.cell? at hc0
    split at hc0
    · rename_i c e fr hh
      have hbl : ∀ j, (a.add j).block = a.block := fun j => add_block a j
      rw [hbl] at hh
      split at hc0
      · cases hc0
      · rename_i hsp
        have hsp : a.spot = none := by
          cases hs : a.spot with
          | none => rfl
          | some x => exact absurd (by show (a.add 0).spot.isSome = true; simp [Addr.add, hs]) hsp
        have all : ∀ j, j < n → cs[j]? = c[a.off + j]? := by
          intro j hj
          obtain ⟨u, hu, hc⟩ := key j hj
          unfold World.cell? at hc
          rw [hbl, hh] at hc
          simp only [] at hc
          split at hc
          · cases hc
          · rw [hu]
            have : (a.add j).off = a.off + j := add_off hsp j
            rw [← this]; exact hc.symm
        refine ⟨c, e, fr, hh, hsp, h1, ?_, all⟩
        have hl := all (n - 1) (by omega)
        have : cs[n - 1]? = some cs[n - 1] := List.getElem?_eq_getElem (by omega)
        rw [this] at hl
        have := (Array.getElem?_eq_some_iff.1 hl.symm).1
        omega
    · cases hc0
  · cases h
theorem tyOk_int {n : Nat} {k : IntKind} {t : TypeId} (h : tyOk P n (.int k) t = true) : P.underlying t = some (.int k) := by
  cases n with
  | zero => simp [tyOk] at h
  | succ n =>
    simp only [tyOk] at h
    split at h <;> simp_all
theorem tyOk_bool {n : Nat} {t : TypeId} (h : tyOk P n .bool t = true) : P.underlying t = some .bool := by
  cases n with
  | zero => simp [tyOk] at h
  | succ n =>
    simp only [tyOk] at h
    split at h <;> simp_all
theorem tyOk_str {n : Nat} {t : TypeId} (h : tyOk P n .str t = true) : P.underlying t = some .string := by
  cases n with
  | zero => simp [tyOk] at h
  | succ n =>
    simp only [tyOk] at h
    split at h <;> simp_all
theorem tyOk_sl {n : Nat} {e : Ty} {t : TypeId} (h : tyOk P n (.sl e) t = true) : ∃ m e', P.underlying t = some (.slice e') ∧ tyOk P m e e' = true ∧ P.cellsOf e' = e.width ∧ 0 < e.width := by
  cases n with
  | zero => simp [tyOk] at h
  | succ n =>
    simp only [tyOk] at h
    split at h <;> simp_all
    exact ⟨n, h.1.1⟩
theorem tyOk_st {n : Nat} {fs : List Ty} {t : TypeId} (h : tyOk P n (.st fs) t = true) : ∃ m gs, P.underlying t = some (.struct gs) ∧ P.cellsOf t = widths fs ∧ tysOk P m 0 fs gs.toList = true := by
  cases n with
  | zero => simp [tyOk] at h
  | succ n =>
    simp only [tyOk] at h
    split at h <;> simp_all
    exact ⟨n, h.2⟩
theorem read_ty : ∀ (fuel n : Nat) (ty : Ty) (t : TypeId) (cs : List Value) (x : DataW H × List MemPlace), tyOk P n ty t = true → DataW.trod enc P w base sp held fuel t cs = some x → ∃ vs, IsV ty vs ∧ PRs w vs cs := by
  intro fuel
  induction fuel with
  | zero => intro n ty t cs x _ h; simp [DataW.trod] at h
  | succ fuel ih =>
    intro n ty t cs x ht h
    cases ty with
    | int k =>
      obtain ⟨m, rfl, _, hw⟩ := DataW.trod_int (tyOk_int ht) h
      simp only [Lit.wf, Bool.and_eq_true, decide_eq_true_eq] at hw
      exact ⟨[.s (.int k m)], ⟨m, rfl, hw.1, hw.2⟩, PRs.one (.s _)⟩
    | bool =>
      obtain ⟨b, rfl, _⟩ := DataW.trod_bool (tyOk_bool ht) h
      exact ⟨[.s (.bool b)], ⟨b, rfl⟩, PRs.one (.s _)⟩
    | str =>
      obtain ⟨b, rfl, _, hb⟩ := DataW.trod_string (tyOk_str ht) h
      exact ⟨[.s (.string b)], ⟨b, rfl, hb⟩, PRs.one (.s _)⟩
    | sl e =>
      obtain ⟨m, e', hu, he, hw, h0⟩ := tyOk_sl ht
      rcases DataW.trod_slice hu h with ⟨rfl, _⟩ | ⟨a, len, cap, elems, rest, n2, hn, rfl, _, hb, hlc, hcm, hel, hall, _⟩
      · exact ⟨[nilS], .inl rfl, PRs.one (.s _)⟩
      · have hn2 : n2 = fuel := by omega
        subst hn2
        rw [hw] at hall
        by_cases hl : len = 0
        · subst hl
          exact ⟨[.psl [] e.width], .inr ⟨[], rfl, Nat.zero_le _, fun x hx => by cases hx⟩, PRs.one (.psl0 _ _ _)⟩
        ·
          have one : ∀ i, i < len → ∃ cs vs, w.cells? base (a.add (i * e.width)) e.width = some cs ∧ IsV e vs ∧ PRs w vs cs := by
            intro i hi
            have hh := hall i hi
            have : elems[i]? = some elems[i] := List.getElem?_eq_getElem (by omega)
            rw [this, Option.bind_eq_some_iff] at hh
            obtain ⟨cs, h1, h2⟩ := hh
            obtain ⟨vs, h3, h4⟩ := ih m e e' cs _ he h2
            exact ⟨cs, vs, h1, h3, h4⟩
          obtain ⟨c0, _, hc0, _, _⟩ := one 0 (by omega)
          rw [Nat.zero_mul] at hc0
          have ha0 : a.add 0 = a := by simp [Addr.add]
          rw [ha0] at hc0
          obtain ⟨arr, el, fr, hB, hsp, _, _, _⟩ := cells_row hc0 h0
          have pos : ∀ i, i < len → ∃ vs, IsV e vs ∧ a.off + i * e.width + e.width ≤ arr.size ∧ ∀ (j : Nat) (x : V) (y : Value), vs[j]? = some x → arr[a.off + i * e.width + j]? = some y → PR (fun _ => False) w x y := by
            intro i hi
            obtain ⟨cs, vs, h1, h2, h3⟩ := one i hi
            obtain ⟨arr', el', fr', hB', _, hcl, hsz, hcj⟩ := cells_row h1 h0
            rw [add_block, hB] at hB'
            cases hB'
            rw [add_off hsp] at hsz hcj
            refine ⟨vs, h2, hsz, fun j x y hx hy => ?_⟩
            have hj : j < e.width := by rw [← h2.len]; exact (List.getElem?_eq_some_iff.1 hx).1
            exact h3.2 j x y hx (by rw [hcj j hj]; exact hy)
          obtain ⟨es, he1, he2⟩ : ∃ es : List (List V), es.length = len ∧ ∀ i vs, es[i]? = some vs → IsV e vs ∧ a.off + i * e.width + e.width ≤ arr.size ∧ ∀ (j : Nat) (x : V) (y : Value), vs[j]? = some x → arr[a.off + i * e.width + j]? = some y → PR (fun _ => False) w x y := by
            have : ∀ k, k ≤ len → ∃ es : List (List V), es.length = k ∧ ∀ i vs, es[i]? = some vs → IsV e vs ∧ a.off + i * e.width + e.width ≤ arr.size ∧ ∀ (j : Nat) (x : V) (y : Value), vs[j]? = some x → arr[a.off + i * e.width + j]? = some y → PR (fun _ => False) w x y := by
              intro k
              induction k with
              | zero => intro _; exact ⟨[], rfl, fun i vs h => by simp at h⟩
              | succ k ihk =>
                intro hk
                obtain ⟨es, h1, h2⟩ := ihk (by omega)
                obtain ⟨vs, h3⟩ := pos k (by omega)
                refine ⟨es ++ [vs], by simp [h1], fun i us hi => ?_⟩
                by_cases c : i < es.length
                · rw [List.getElem?_append_left c] at hi; exact h2 i us hi
                · rw [List.getElem?_append_right (by omega)] at hi
                  have : i - es.length = 0 := by
                    have := (List.getElem?_eq_some_iff.1 hi).1
                    simp at this; omega
                  rw [this] at hi
                  simp at hi
                  have hik : i = k := by omega
                  subst hik; subst hi
                  exact h3
            exact this len (Nat.le_refl _)
          refine ⟨[.psl es e.width], .inr ⟨es, rfl, by omega, fun x hx => ?_⟩, PRs.one ?_⟩
          · obtain ⟨i, hi⟩ := List.mem_iff_getElem?.1 hx
            exact (he2 i x hi).1
          · have hslice : Value.slice (some a) len cap = .slice (some ⟨a.block, a.off, none⟩) es.length cap := by
              rw [he1]
              congr 2
              cases a; simp at hsp; subst hsp; rfl
            rw [hslice]
            refine .psl es e.width a.block a.off cap arr el fr hB (fun h => h) (by omega) (fun i vs hi => (he2 i vs hi).1.len) ?_ (fun i vs j x y hi hx hy => (he2 i vs hi).2.2 j x y hx hy)
            have hlast := (he2 (len - 1) es[len - 1] (List.getElem?_eq_getElem (by omega))).2.1
            rw [he1]
            have : len * e.width = (len - 1) * e.width + e.width := by
              obtain ⟨k, rfl⟩ : ∃ k, len = k + 1 := ⟨len - 1, by omega⟩
              rw [Nat.add_sub_cancel, Nat.add_mul, Nat.one_mul]
            omega
    | st fs =>
      obtain ⟨m, gs, hu, hw, hts⟩ := tyOk_st ht
      obtain ⟨xs, n2, hn, _, hcl, hxl, hall⟩ := DataW.trod_struct hu h
      have hn2 : n2 = fuel := by omega
      subst hn2
      have key : ∀ (fs : List Ty) (m off : Nat) (gl : List Field), tysOk P m off fs gl = true → (∀ g ∈ gl, ∃ y, DataW.trod enc P w base sp held n2 g.type ((cs.drop g.offset).take (P.cellsOf g.type)) = some y) → off + widths fs = cs.length → ∃ vs, IsVs fs vs ∧ PRs w vs (cs.drop off) := by
        intro fs
        induction fs with
        | nil =>
          intro m off gl _ _ ho
          refine ⟨[], rfl, ?_⟩
          rw [List.drop_eq_nil_of_le (by simp [widths] at ho; omega)]
          exact ⟨rfl, fun i a b h => by simp at h⟩
        | cons f fs ihf =>
          intro m off gl htk hg ho
          cases m with
          | zero => simp [tysOk] at htk
          | succ m =>
            cases gl with
            | nil => simp [tysOk] at htk
            | cons g gl =>
              simp only [tysOk, Bool.and_eq_true, beq_iff_eq] at htk
              obtain ⟨⟨⟨h1, h2⟩, h3⟩, h4⟩ := htk
              obtain ⟨y, hy⟩ := hg g List.mem_cons_self
              obtain ⟨va, ha1, ha2⟩ := ih m f g.type _ y h3 hy
              obtain ⟨vb, hb1, hb2⟩ := ihf m (off + f.width) gl h4 (fun g hg' => hg g (List.mem_cons_of_mem _ hg')) (by simp only [widths] at ho; omega)
              refine ⟨va ++ vb, ⟨va, vb, rfl, ha1, hb1⟩, ?_⟩
              rw [h1, h2] at ha2
              have : cs.drop off = (cs.drop off).take f.width ++ cs.drop (off + f.width) := by
                rw [← List.drop_drop, List.take_append_drop]
              rw [this]
              exact ha2.app hb2
      obtain ⟨vs, h1, h2⟩ := key fs m 0 gs.toList hts (fun g hg => by
        obtain ⟨i, hi⟩ := List.mem_iff_getElem?.1 hg
        have hi' : gs[i]? = some g := by simpa using hi
        have h3 := hall i g hi'
        have hlt := (Array.getElem?_eq_some_iff.1 hi').1
        exact ⟨xs[i]'(by omega), by rw [h3]; exact List.getElem?_eq_getElem (by omega)⟩) (by omega)
      exact ⟨vs, h1, by simpa using h2⟩
def argV : Ty → List V → V
  | .st _, vs => .agg vs
  | _, [v] => v
  | _, _ => .unk
theorem read_arg {n : Nat} {ty : Ty} {t : TypeId} {v : Value} {d : DataW H} {ps : List MemPlace} (ht : tyOk P n ty t = true) (hf : (match ty with | .st _ => ∃ vs, v = .agg vs | _ => v.cells.toList = [v])) (h : DataW.Trod enc P w base sp held t v d ps) :
    ∃ vs, IsV ty vs ∧ VR (fun _ _ => none) (fun _ => False) w (argV ty vs) v := by
  obtain ⟨fuel, h⟩ := h
  obtain ⟨vs, h1, h2⟩ := read_ty fuel n ty t _ _ ht h
  refine ⟨vs, h1, ?_⟩
  have one : vs.length = 1 → v.cells.toList = [v] → ∃ x, vs = [x] ∧ VR (fun _ _ => none) (fun _ => False) w x v := by
    intro hl hc
    match vs, hl with
    | [x], _ =>
      rw [hc] at h2
      exact ⟨x, rfl, (h2.2 0 x v rfl rfl).vr⟩
  cases ty with
  | st fs =>
    obtain ⟨us, rfl⟩ := hf
    exact vr_agg_mk (vs := us.toList) h2.vrs
  | _ =>
    obtain ⟨x, rfl, hx⟩ := one h1.len hf
    exact hx
end
end Go.AM
set_option maxRecDepth 100000
namespace Go.Proofs.YtccallbknpbggaaDoor
open Go.ChangeShapes Go.WideShapes Go.ChangeAt Go.RowKit Go.AM
theorem mixed : Tryd.prog.follows .mixedOrders = true := by kernel_rfl
theorem sorts (m : Nat) : AnyZI.SortsIn Tryd.prog Tryd.sortedK_ren Fence.wide m :=
  ⟨fun blk off cap ss W hH hblk hsz => callsIn_wide.2 (Any.slices_Sort_int Tryd.sortK blk off cap ss W hH hblk hsz), fun p cap W => callsIn_wide.2 (Any.slices_Sort_int_none Tryd.sortK p cap W)⟩
theorem sorted_prim (fx : Nat → Option (Array Value × TypeId × Nat × Nat)) : FunOk Tryd.prog (PXf fx) k_slices_Sorted_int (.prim (sortedG k_maps_Keys_1)) := by
  refine sorted_ok (kt := 3) (t := 3) (Go.Proofs.enters_of Tryd.func42 (by kernel_rfl) rfl) Tryd.underlying3 ?_
  intro Bm b nn D0 w hBm hm hown hmax hbytes
  refine (callsIn_wide (n := 5)).1 ?_
  have hseq : SeqGives Fence.wide 2 Tryd.prog 47 #[.pointer (some ⟨Bm, 0, none⟩)] encZ (fun ss => ss.Perm (intKeys D0)) (Maps.size D0) w :=
    AnyZI.keys_gives (ρ := Tryd.keysK_ren) { Tryd.keysK with } Fence.wide _ trivial rfl (by omega) Bm b nn D0 w hBm hm hown
  exact AnyZI.sorted_in Tryd.sortedK Fence.wide 5 trivial trivial trivial trivial rfl (by omega) (sorts _) (Go.Proofs.enters_of Tryd.func46 (by kernel_rfl) rfl) 47 #[.pointer (some ⟨Bm, 0, none⟩)] trivial (Go.Proofs.enters_of Tryd.func47 (by kernel_rfl) rfl) _ _ hmax hbytes w hseq
theorem clone_prim (fx : Nat → Option (Array Value × TypeId × Nat × Nat)) : FunOk Tryd.prog (PXf fx) k_maps_Clone (.prim cloneG) :=
  clone_ok (Go.Proofs.enters_of Tryd.func35 (by kernel_rfl) rfl) (fun b es clock w hb => AnyW.maps_Clone Tryd.cloneK b es clock w hb) (fun w => AnyW.maps_Clone_nil Tryd.cloneK w)
def TabFx (fx : Nat → Option (Array Value × TypeId × Nat × Nat)) : Prop := ∃ o, fx 0 = some o ∧ ∀ j, j < Lib.deBruijn64tab.length → o.1[j]? = some (.int .u8 ((Lib.deBruijn64tab.getD j 0 : Nat) : Int))
theorem tz_prim (fx : Nat → Option (Array Value × TypeId × Nat × Nat)) (h : TabFx fx) : FunOk Tryd.prog (PXf fx) k_math_bits_TrailingZeros64 (.prim tzG) := by
  obtain ⟨⟨arr, rest⟩, h1, h2⟩ := h
  exact tz_ok (g := 0) h1 (Go.Proofs.enters_of Tryd.func34 (by kernel_rfl) rfl) h2 (fun x w hx hT => Any7.bits_TrailingZeros64 Tryd.tzK x hx w (fun _ => hT))
theorem tab_of_laid {W : World} (h : laidMetH Tryd.prog Rows.bitsOrderRow.laid W) : ∃ o : Array Value × TypeId × Nat × Nat, W.heap[0]? = some (.cells o.1 o.2.1 o.2.2) ∧ ∀ j, j < Lib.deBruijn64tab.length → o.1[j]? = some (.int .u8 ((Lib.deBruijn64tab.getD j 0 : Nat) : Int)) := by
  rw [MakeChecks.laidMetH_plain _ _ _ (by kernel_rfl)] at h
  exact tab_laid (tab := Lib.deBruijn64tab) (by kernel_rfl) (by kernel_rfl) Tryd.underlying72 Tryd.underlying5 (by kernel_rfl) (by decide) h
theorem tab_fx {o : Array Value × TypeId × Nat × Nat} (h : ∀ j, j < Lib.deBruijn64tab.length → o.1[j]? = some (.int .u8 ((Lib.deBruijn64tab.getD j 0 : Nat) : Int))) : TabFx (fun B => if B = 0 then some o else none) := ⟨o, if_pos rfl, h⟩
theorem fx_heap {W : World} {ob : Array Value × TypeId × Nat × Nat} (h : W.heap[0]? = some (.cells ob.1 ob.2.1 ob.2.2)) {B : Nat} {o : Array Value × TypeId × Nat × Nat} (e : (PXf (fun B => if B = 0 then some ob else none)).fx B = some o) : W.heap[B]? = some (.cells o.1 o.2.1 o.2.2) := by
  have e' : (if B = 0 then some ob else none) = some o := e
  split at e'
  · rename_i hB
    subst hB
    cases e'
    exact h
  · cases e'
theorem door_met (os : Os) (args : Array Value) : laidMetH Tryd.prog Rows.bitsOrderRow.laid ((World.doorLaid Tryd.prog 400 os).forCall (fun _ _ => 0) ⟨#[], args, []⟩).memory := by
  rw [MakeChecks.laidMetH_plain _ _ _ (by kernel_rfl)]
  exact laidMet_of_run' 8 (by kernel_rfl) (by kernel_rfl)
theorem CQp_ok (fx : Nat → Option (Array Value × TypeId × Nat × Nat)) (hfx : TabFx fx) : ∀ k c, CQp k = some c → FunOk Tryd.prog (PXf fx) k c := by
  intro k c h
  unfold CQp at h
  split at h
  · rename_i e; subst e; cases h; exact sorted_prim fx
  · split at h
    · rename_i e; subst e; cases h; exact tz_prim fx hfx
    · exact CQ_ok fx k c h
theorem wakes_prim (fx : Nat → Option (Array Value × TypeId × Nat × Nat)) (hfx : TabFx fx) : FunOk Tryd.prog (PXf fx) k_gnomonlaw01_wakes (.prim (primC (bl true))) := prim_ok mixed (CQp_ok fx hfx) checks_true rfl
theorem wakes_fun {CT : Nat → Option CFun} (hT : CT k_gnomonlaw01_wakes = some (.prim (primC (bl true)))) (base : Nat) (H : Heap) : callW CT (.fn k_gnomonlaw01_wakes [] []) [] base H = some (.s (.bool true), H) := callW_eq (by simp only [evCall, hT]; rfl)
theorem ints_of : ∀ es : List (List V), (∀ x ∈ es, IsV (.int .i64) x) → ∃ l : List Int, es = (l.map iV).map (fun x => [x]) ∧ ∀ x ∈ l, x < 2 ^ 63 := by
  intro es
  induction es with
  | nil => intro _; exact ⟨[], rfl, fun x hx => by cases hx⟩
  | cons e es ih =>
    intro h
    obtain ⟨n, rfl, _, hn⟩ := h e List.mem_cons_self
    obtain ⟨l, rfl, hl⟩ := ih fun x hx => h x (List.mem_cons_of_mem _ hx)
    have hm : IntKind.i64.max = 9223372036854775807 := by decide
    rw [hm] at hn
    refine ⟨n :: l, rfl, fun x hx => ?_⟩
    rcases List.mem_cons.1 hx with rfl | hx
    · omega
    · exact hl x hx
theorem one_wide (l : List V) : Wide1 (.psl (l.map fun x => [x]) 1) := by
  intro e he
  rw [List.mem_map] at he
  obtain ⟨x, _, rfl⟩ := he
  rfl
theorem ints_arg {v : List V} (h : IsV (.sl (.int .i64)) v) : ∃ u, v = [u] ∧ ∃ l : List Int, (∀ H, Rd H u (l.map iV)) ∧ Wide1 u ∧ l.length < 2 ^ 63 ∧ ∀ x ∈ l, x < 2 ^ 63 := by
  rcases h with rfl | ⟨es, rfl, hl, he⟩
  · exact ⟨nilS, rfl, [], fun H => Rd.nil H, trivial, by decide, fun x hx => by cases hx⟩
  · obtain ⟨l, rfl, hx⟩ := ints_of es he
    refine ⟨_, rfl, l, fun H => Rd.psl H _, one_wide _, ?_, hx⟩
    simp only [List.length_map, maxLen] at hl
    omega
theorem int_arg {v : List V} (h : IsV (.int .i64) v) : ∃ z, v = [.s (.int .i64 z)] ∧ z < 2 ^ 63 := by
  obtain ⟨n, rfl, _, hn⟩ := h
  have hm : IntKind.i64.max = 9223372036854775807 := by decide
  rw [hm] at hn
  exact ⟨n, rfl, by omega⟩
end Go.Proofs.YtccallbknpbggaaDoor
set_option maxRecDepth 100000
namespace Go.Proofs.YtccallbknpbggaaDoor
open Go.AM
abbrev k_gnomonlaw01_BitsOrder : Nat := 3
def s_gnomonlaw01_BitsOrder_r0_k : List Nat := [2, 3, 4, 5, 6, 7, 8, 9, 10, 11, 12, 13, 14, 15, 16, 17, 18, 19, 20, 21, 22, 23, 24, 25, 26, 27, 28, 29, 30, 31, 32, 33, 34, 35, 36, 37, 38, 39, 40, 41, 42, 43, 44, 45, 46, 47, 48, 49, 50, 51, 52, 53, 54, 55, 56, 57, 58, 59, 60, 61, 62, 63]
theorem s_gnomonlaw01_BitsOrder_r0_kT : killV s_gnomonlaw01_BitsOrder_r0_k (startV 64 [] 2) = [] := by kernel_rfl
theorem s_gnomonlaw01_BitsOrder_r0_kA0 : s_gnomonlaw01_BitsOrder_r0_k.contains 0 = false := by kernel_rfl
theorem s_gnomonlaw01_BitsOrder_r0_kA1 : s_gnomonlaw01_BitsOrder_r0_k.contains 1 = false := by kernel_rfl
def s_gnomonlaw01_BitsOrder_r0 : List AOper := [
  ⟨some 4, (.move (.c (.s (.bool false)))), none⟩]
theorem s_gnomonlaw01_BitsOrder_r0_tale (fr : List V) (H : Heap) : evTale (symAll s_gnomonlaw01_BitsOrder_r0 s_gnomonlaw01_BitsOrder_r0_k []) s_gnomonlaw01_BitsOrder_r0_k fr H = evTale (some (5, [], [])) s_gnomonlaw01_BitsOrder_r0_k fr H := tale_row (items := [.cc (.s (.bool false))]) (by kernel_rfl) fr H
def s_gnomonlaw01_BitsOrder_r1 : List AOper := [
  ⟨some 8, (.move (.t 0)), none⟩,
  ⟨some 9, (.lenS .s (.t 8)), none⟩,
  ⟨some 10, (.bin .gtr (.t 9) (.c (.s (.int .i64 1000)))), none⟩]
theorem s_gnomonlaw01_BitsOrder_r1_tale (fr : List V) (H : Heap) : evTale (symAll s_gnomonlaw01_BitsOrder_r1 [8, 9] [10]) [8, 9] fr H = evTale (some (11, [], [(10, (.op (.bin .gtr (.t 0) (.c (.s (.int .i64 1000)))) [(.op (.lenS .s (.t 0)) [(.t 0)]), (.c (.s (.int .i64 1000)))]))])) [8, 9] fr H := tale_row (items := [.tt 0, .sub 0 [0] [], .sub 0 [] []]) (by kernel_rfl) fr H
def s_gnomonlaw01_BitsOrder_r2t1 : List AOper := [⟨some 4, (.move (.t 11)), none⟩]
def s_gnomonlaw01_BitsOrder_r2p0 : List AOper := [⟨some 11, (.call (.c (.fn 10 [] [])) []), none⟩]
def s_gnomonlaw01_BitsOrder_r2 : List AOper := s_gnomonlaw01_BitsOrder_r2p0 ++ s_gnomonlaw01_BitsOrder_r2t1
theorem s_gnomonlaw01_BitsOrder_r2_x (call : CallF) (it : IterF) (base : Nat) (f : List V) (H : Heap) : evC call it base (.region s_gnomonlaw01_BitsOrder_r2 [] [0, 1, 10, 11]) f H = thenC call it base (.region s_gnomonlaw01_BitsOrder_r2t1 [] [0, 1, 10, 11]) (opsC [] s_gnomonlaw01_BitsOrder_r2p0 [0, 1, 10] (evOps call base [⟨some 11, (.call (.c (.fn 10 [] [])) []), none⟩] f H)) := (row_op call it base s_gnomonlaw01_BitsOrder_r2p0 s_gnomonlaw01_BitsOrder_r2t1 (kc := [0, 1, 10]) (by kernel_rfl) f H).trans (by rw [row_ops]; rfl)
theorem s_gnomonlaw01_BitsOrder_r2t1_tale (fr : List V) (H : Heap) : evTale (symAll s_gnomonlaw01_BitsOrder_r2t1 [0, 1, 10, 11] [4]) [0, 1, 10, 11] fr H = evTale (some (5, [], [(4, (.t 11))])) [0, 1, 10, 11] fr H := tale_row (items := [.tt 11]) (by kernel_rfl) fr H
theorem s_gnomonlaw01_BitsOrder_r2t1_x (call : CallF) (it : IterF) (base : Nat) (f : List V) (H : Heap) : evC call it base (.region s_gnomonlaw01_BitsOrder_r2t1 [] [0, 1, 10, 11]) f H = segL H (evTale (symAll s_gnomonlaw01_BitsOrder_r2t1 [0, 1, 10, 11] [4]) [0, 1, 10, 11] f H) (origRow call it base s_gnomonlaw01_BitsOrder_r2t1 [0, 1, 10, 11] f H) := row_last call it base _ f H
def s_gnomonlaw01_BitsOrder_r3t2 : List AOper := [⟨some 5, (.move (.t 12)), none⟩, ⟨some 6, (.move (.t 13)), none⟩]
def s_gnomonlaw01_BitsOrder_r3p1 : List AOper := [⟨some 13, (.call (.c (.fn 11 [] [])) [(.c (.s (.slice none 0 0)))]), none⟩]
def s_gnomonlaw01_BitsOrder_r3t1 : List AOper := s_gnomonlaw01_BitsOrder_r3p1 ++ s_gnomonlaw01_BitsOrder_r3t2
def s_gnomonlaw01_BitsOrder_r3p0 : List AOper := [⟨some 12, (.call (.c (.fn 11 [] [])) [(.c (.s (.slice none 0 0)))]), none⟩]
def s_gnomonlaw01_BitsOrder_r3 : List AOper := s_gnomonlaw01_BitsOrder_r3p0 ++ s_gnomonlaw01_BitsOrder_r3t1
theorem s_gnomonlaw01_BitsOrder_r3_x (call : CallF) (it : IterF) (base : Nat) (f : List V) (H : Heap) : evC call it base (.region s_gnomonlaw01_BitsOrder_r3 [] [10, 12, 13]) f H = thenC call it base (.region s_gnomonlaw01_BitsOrder_r3t1 [] [10, 12, 13]) (opsC [] s_gnomonlaw01_BitsOrder_r3p0 [10] (evOps call base [⟨some 12, (.call (.c (.fn 11 [] [])) [(.c (.s (.slice none 0 0)))]), none⟩] f H)) := (row_op call it base s_gnomonlaw01_BitsOrder_r3p0 s_gnomonlaw01_BitsOrder_r3t1 (kc := [10]) (by kernel_rfl) f H).trans (by rw [row_ops]; rfl)
theorem s_gnomonlaw01_BitsOrder_r3t1_x (call : CallF) (it : IterF) (base : Nat) (f : List V) (H : Heap) : evC call it base (.region s_gnomonlaw01_BitsOrder_r3t1 [] [10, 12, 13]) f H = thenC call it base (.region s_gnomonlaw01_BitsOrder_r3t2 [] [10, 12, 13]) (opsC [] s_gnomonlaw01_BitsOrder_r3p1 [] (evOps call base [⟨some 13, (.call (.c (.fn 11 [] [])) [(.c (.s (.slice none 0 0)))]), none⟩] f H)) := (row_op call it base s_gnomonlaw01_BitsOrder_r3p1 s_gnomonlaw01_BitsOrder_r3t2 (kc := []) (by kernel_rfl) f H).trans (by rw [row_ops]; rfl)
theorem s_gnomonlaw01_BitsOrder_r3t2_tale (fr : List V) (H : Heap) : evTale (symAll s_gnomonlaw01_BitsOrder_r3t2 [10, 12, 13] [5, 6]) [10, 12, 13] fr H = evTale (some (7, [], [(5, (.t 12)), (6, (.t 13))])) [10, 12, 13] fr H := tale_row (items := [.tt 12, .tt 13]) (by kernel_rfl) fr H
theorem s_gnomonlaw01_BitsOrder_r3t2_x (call : CallF) (it : IterF) (base : Nat) (f : List V) (H : Heap) : evC call it base (.region s_gnomonlaw01_BitsOrder_r3t2 [] [10, 12, 13]) f H = segL H (evTale (symAll s_gnomonlaw01_BitsOrder_r3t2 [10, 12, 13] [5, 6]) [10, 12, 13] f H) (origRow call it base s_gnomonlaw01_BitsOrder_r3t2 [10, 12, 13] f H) := row_last call it base _ f H
def s_gnomonlaw01_BitsOrder_r4 : List AOper := [
  ⟨some 7, (.move (.c (.s (.int .i64 0)))), none⟩]
theorem s_gnomonlaw01_BitsOrder_r4_tale (fr : List V) (H : Heap) : evTale (symAll s_gnomonlaw01_BitsOrder_r4 [] [7]) [] fr H = evTale (some (8, [], [(7, (.c (.s (.int .i64 0))))])) [] fr H := tale_row (items := [.cc (.s (.int .i64 0))]) (by kernel_rfl) fr H
def s_gnomonlaw01_BitsOrder_r5 : List AOper := [
  ⟨some 14, (.move (.t 7)), none⟩,
  ⟨some 15, (.move (.t 0)), none⟩,
  ⟨some 16, (.lenS .s (.t 15)), none⟩,
  ⟨some 17, (.bin .lss (.t 14) (.t 16)), none⟩]
theorem s_gnomonlaw01_BitsOrder_r5_tale (fr : List V) (H : Heap) : evTale (symAll s_gnomonlaw01_BitsOrder_r5 [14, 15, 16] [17]) [14, 15, 16] fr H = evTale (some (18, [], [(17, (.op (.bin .lss (.t 0) (.t 1)) [(.t 7), (.op (.lenS .s (.t 0)) [(.t 0)])]))])) [14, 15, 16] fr H := tale_row (items := [.tt 7, .tt 0, .sub 0 [1] [], .sub 0 [] []]) (by kernel_rfl) fr H
def s_gnomonlaw01_BitsOrder_r6t1 : List AOper := [⟨some 25, (.call (.c (.fn 12 [] [])) [(.t 20), (.t 24)]), none⟩]
def s_gnomonlaw01_BitsOrder_r6p0 : List AOper := [⟨some 20, (.move (.t 5)), none⟩, ⟨some 21, (.move (.t 0)), none⟩, ⟨some 22, (.move (.t 7)), none⟩, ⟨some 23, (.indexAddr 1 (.t 21) (.t 22)), none⟩, ⟨some 24, (.load false 1 (.t 23)), none⟩]
def s_gnomonlaw01_BitsOrder_r6 : List AOper := s_gnomonlaw01_BitsOrder_r6p0 ++ s_gnomonlaw01_BitsOrder_r6t1
theorem s_gnomonlaw01_BitsOrder_r6p0_tale (fr : List V) (H : Heap) : evTale (symAll s_gnomonlaw01_BitsOrder_r6p0 [17, 21, 22, 23] [20, 24]) [17, 21, 22, 23] fr H = evTale (some (25, [], [(20, (.t 5)), (24, (.op (.load false 1 (.t 0)) [(.op (.indexAddr 1 (.t 0) (.t 1)) [(.t 0), (.t 7)])]))])) [17, 21, 22, 23] fr H := tale_row (items := [.tt 5, .tt 0, .tt 7, .sub 1 [0] [], .sub 1 [] []]) (by kernel_rfl) fr H
theorem s_gnomonlaw01_BitsOrder_r6_x (call : CallF) (it : IterF) (base : Nat) (f : List V) (H : Heap) : evC call it base (.region s_gnomonlaw01_BitsOrder_r6 [] [17, 20, 21, 22, 23, 24, 25]) f H = segC call it base s_gnomonlaw01_BitsOrder_r6t1 [17, 20, 21, 22, 23, 24, 25] H (evTale (symAll s_gnomonlaw01_BitsOrder_r6p0 [17, 21, 22, 23] [20, 24]) [17, 21, 22, 23] f H) (origRow call it base s_gnomonlaw01_BitsOrder_r6 [17, 20, 21, 22, 23, 24, 25] f H) := row_seg call it base s_gnomonlaw01_BitsOrder_r6p0 s_gnomonlaw01_BitsOrder_r6t1 (by kernel_rfl) f H
theorem s_gnomonlaw01_BitsOrder_r6t1_x (call : CallF) (it : IterF) (base : Nat) (f : List V) (H : Heap) : evC call it base (.region s_gnomonlaw01_BitsOrder_r6t1 [] [17, 20, 21, 22, 23, 24, 25]) f H = opsC [] s_gnomonlaw01_BitsOrder_r6t1 [17, 20, 21, 22, 23, 24, 25] (evOps call base [⟨some 25, (.call (.c (.fn 12 [] [])) [(.t 20), (.t 24)]), none⟩] f H) := row_ops call it base _ _ _ f H
def s_gnomonlaw01_BitsOrder_r7t1 : List AOper := [⟨some 35, (.call (.c (.fn 12 [] [])) [(.t 26), (.t 34)]), none⟩]
def s_gnomonlaw01_BitsOrder_r7p0 : List AOper := [⟨some 26, (.move (.t 6)), none⟩, ⟨some 27, (.move (.t 0)), none⟩, ⟨some 28, (.move (.t 0)), none⟩, ⟨some 29, (.lenS .s (.t 28)), none⟩, ⟨some 30, (.bin .sub (.t 29) (.c (.s (.int .i64 1)))), none⟩, ⟨some 31, (.move (.t 7)), none⟩, ⟨some 32, (.bin .sub (.t 30) (.t 31)), none⟩, ⟨some 33, (.indexAddr 1 (.t 27) (.t 32)), none⟩, ⟨some 34, (.load false 1 (.t 33)), none⟩]
def s_gnomonlaw01_BitsOrder_r7 : List AOper := s_gnomonlaw01_BitsOrder_r7p0 ++ s_gnomonlaw01_BitsOrder_r7t1
theorem s_gnomonlaw01_BitsOrder_r7p0_tale (fr : List V) (H : Heap) : evTale (symAll s_gnomonlaw01_BitsOrder_r7p0 [27, 28, 29, 30, 31, 32, 33] [26, 34]) [27, 28, 29, 30, 31, 32, 33] fr H = evTale (some (35, [], [(26, (.t 6)), (34, (.op (.load false 1 (.t 0)) [(.op (.indexAddr 1 (.t 0) (.t 1)) [(.t 0), (.op (.bin .sub (.t 0) (.t 1)) [(.op (.bin .sub (.t 0) (.c (.s (.int .i64 1)))) [(.op (.lenS .s (.t 0)) [(.t 0)]), (.c (.s (.int .i64 1)))]), (.t 7)])])]))])) [27, 28, 29, 30, 31, 32, 33] fr H := tale_row (items := [.tt 6, .tt 0, .tt 0, .sub 1 [0, 1, 0, 0] [], .sub 1 [0, 1, 0] [], .tt 7, .sub 1 [0, 1] [], .sub 1 [0] [], .sub 1 [] []]) (by kernel_rfl) fr H
theorem s_gnomonlaw01_BitsOrder_r7_x (call : CallF) (it : IterF) (base : Nat) (f : List V) (H : Heap) : evC call it base (.region s_gnomonlaw01_BitsOrder_r7 [] [26, 27, 28, 29, 30, 31, 32, 33, 34, 35]) f H = segC call it base s_gnomonlaw01_BitsOrder_r7t1 [26, 27, 28, 29, 30, 31, 32, 33, 34, 35] H (evTale (symAll s_gnomonlaw01_BitsOrder_r7p0 [27, 28, 29, 30, 31, 32, 33] [26, 34]) [27, 28, 29, 30, 31, 32, 33] f H) (origRow call it base s_gnomonlaw01_BitsOrder_r7 [26, 27, 28, 29, 30, 31, 32, 33, 34, 35] f H) := row_seg call it base s_gnomonlaw01_BitsOrder_r7p0 s_gnomonlaw01_BitsOrder_r7t1 (by kernel_rfl) f H
theorem s_gnomonlaw01_BitsOrder_r7t1_x (call : CallF) (it : IterF) (base : Nat) (f : List V) (H : Heap) : evC call it base (.region s_gnomonlaw01_BitsOrder_r7t1 [] [26, 27, 28, 29, 30, 31, 32, 33, 34, 35]) f H = opsC [] s_gnomonlaw01_BitsOrder_r7t1 [26, 27, 28, 29, 30, 31, 32, 33, 34, 35] (evOps call base [⟨some 35, (.call (.c (.fn 12 [] [])) [(.t 26), (.t 34)]), none⟩] f H) := row_ops call it base _ _ _ f H
def s_gnomonlaw01_BitsOrder_r8t3 : List AOper := [⟨some 44, (.call (.c (.fn 12 [] [])) [(.t 36), (.t 43)]), none⟩]
def s_gnomonlaw01_BitsOrder_r8p2 : List AOper := [⟨some 42, (.indexAddr 1 (.t 37) (.t 41)), none⟩, ⟨some 43, (.load false 1 (.t 42)), none⟩]
def s_gnomonlaw01_BitsOrder_r8t2 : List AOper := s_gnomonlaw01_BitsOrder_r8p2 ++ s_gnomonlaw01_BitsOrder_r8t3
def s_gnomonlaw01_BitsOrder_r8p1 : List AOper := [⟨some 41, (.call (.c (.fn 13 [] [])) [(.t 38), (.t 40)]), none⟩]
def s_gnomonlaw01_BitsOrder_r8t1 : List AOper := s_gnomonlaw01_BitsOrder_r8p1 ++ s_gnomonlaw01_BitsOrder_r8t2
def s_gnomonlaw01_BitsOrder_r8p0 : List AOper := [⟨some 36, (.move (.t 6)), none⟩, ⟨some 37, (.move (.t 0)), none⟩, ⟨some 38, (.move (.t 1)), none⟩, ⟨some 39, (.move (.t 0)), none⟩, ⟨some 40, (.lenS .s (.t 39)), none⟩]
def s_gnomonlaw01_BitsOrder_r8 : List AOper := s_gnomonlaw01_BitsOrder_r8p0 ++ s_gnomonlaw01_BitsOrder_r8t1
theorem s_gnomonlaw01_BitsOrder_r8p0_tale (fr : List V) (H : Heap) : evTale (symAll s_gnomonlaw01_BitsOrder_r8p0 [39] [36, 37, 38, 40]) [39] fr H = evTale (some (41, [], [(36, (.t 6)), (37, (.t 0)), (38, (.t 1)), (40, (.op (.lenS .s (.t 0)) [(.t 0)]))])) [39] fr H := tale_row (items := [.tt 6, .tt 0, .tt 1, .tt 0, .sub 3 [] []]) (by kernel_rfl) fr H
theorem s_gnomonlaw01_BitsOrder_r8_x (call : CallF) (it : IterF) (base : Nat) (f : List V) (H : Heap) : evC call it base (.region s_gnomonlaw01_BitsOrder_r8 [] [36, 37, 38, 39, 40, 41, 42, 43, 44]) f H = segC call it base s_gnomonlaw01_BitsOrder_r8t1 [36, 37, 38, 39, 40, 41, 42, 43, 44] H (evTale (symAll s_gnomonlaw01_BitsOrder_r8p0 [39] [36, 37, 38, 40]) [39] f H) (origRow call it base s_gnomonlaw01_BitsOrder_r8 [36, 37, 38, 39, 40, 41, 42, 43, 44] f H) := row_seg call it base s_gnomonlaw01_BitsOrder_r8p0 s_gnomonlaw01_BitsOrder_r8t1 (by kernel_rfl) f H
theorem s_gnomonlaw01_BitsOrder_r8t1_x (call : CallF) (it : IterF) (base : Nat) (f : List V) (H : Heap) : evC call it base (.region s_gnomonlaw01_BitsOrder_r8t1 [] [36, 37, 38, 39, 40, 41, 42, 43, 44]) f H = thenC call it base (.region s_gnomonlaw01_BitsOrder_r8t2 [] [36, 37, 38, 39, 40, 41, 42, 43, 44]) (opsC [] s_gnomonlaw01_BitsOrder_r8p1 [38, 40] (evOps call base [⟨some 41, (.call (.c (.fn 13 [] [])) [(.t 38), (.t 40)]), none⟩] f H)) := (row_op call it base s_gnomonlaw01_BitsOrder_r8p1 s_gnomonlaw01_BitsOrder_r8t2 (kc := [38, 40]) (by kernel_rfl) f H).trans (by rw [row_ops]; rfl)
theorem s_gnomonlaw01_BitsOrder_r8p2_tale (fr : List V) (H : Heap) : evTale (symAll s_gnomonlaw01_BitsOrder_r8p2 [37, 41, 42] [43]) [37, 41, 42] fr H = evTale (some (44, [], [(43, (.op (.load false 1 (.t 0)) [(.op (.indexAddr 1 (.t 0) (.t 1)) [(.t 37), (.t 41)])]))])) [37, 41, 42] fr H := tale_row (items := [.sub 0 [0] [], .sub 0 [] []]) (by kernel_rfl) fr H
theorem s_gnomonlaw01_BitsOrder_r8t2_x (call : CallF) (it : IterF) (base : Nat) (f : List V) (H : Heap) : evC call it base (.region s_gnomonlaw01_BitsOrder_r8t2 [] [36, 37, 38, 39, 40, 41, 42, 43, 44]) f H = segC call it base s_gnomonlaw01_BitsOrder_r8t3 [36, 37, 38, 39, 40, 41, 42, 43, 44] H (evTale (symAll s_gnomonlaw01_BitsOrder_r8p2 [37, 41, 42] [43]) [37, 41, 42] f H) (origRow call it base s_gnomonlaw01_BitsOrder_r8t2 [36, 37, 38, 39, 40, 41, 42, 43, 44] f H) := row_seg call it base s_gnomonlaw01_BitsOrder_r8p2 s_gnomonlaw01_BitsOrder_r8t3 (by kernel_rfl) f H
theorem s_gnomonlaw01_BitsOrder_r8t3_x (call : CallF) (it : IterF) (base : Nat) (f : List V) (H : Heap) : evC call it base (.region s_gnomonlaw01_BitsOrder_r8t3 [] [36, 37, 38, 39, 40, 41, 42, 43, 44]) f H = opsC [] s_gnomonlaw01_BitsOrder_r8t3 [36, 37, 38, 39, 40, 41, 42, 43, 44] (evOps call base [⟨some 44, (.call (.c (.fn 12 [] [])) [(.t 36), (.t 43)]), none⟩] f H) := row_ops call it base _ _ _ f H
def s_gnomonlaw01_BitsOrder_r9 : List AOper := [
  ⟨some 18, (.move (.t 7)), none⟩,
  ⟨some 19, (.bin .add (.t 18) (.c (.s (.int .i64 1)))), none⟩,
  ⟨some 7, (.move (.t 19)), none⟩]
theorem s_gnomonlaw01_BitsOrder_r9_tale (fr : List V) (H : Heap) : evTale (symAll s_gnomonlaw01_BitsOrder_r9 [18, 19] [7]) [18, 19] fr H = evTale (some (20, [], [(7, (.op (.bin .add (.t 0) (.c (.s (.int .i64 1)))) [(.t 7), (.c (.s (.int .i64 1)))]))])) [18, 19] fr H := tale_row (items := [.tt 7, .sub 0 [] [], .sub 0 [] []]) (by kernel_rfl) fr H
def s_gnomonlaw01_BitsOrder_l0_b : ACode :=
  (.seq (.seq (.regionE s_gnomonlaw01_BitsOrder_r5 [14, 15, 16] [17])
  (.cond (.t 17)
  .skip
  (.exit 0)))
  (.seq (.block 1
  (.seq (.region s_gnomonlaw01_BitsOrder_r6 [] [17, 20, 21, 22, 23, 24, 25])
  (.seq (.region s_gnomonlaw01_BitsOrder_r7 [] [26, 27, 28, 29, 30, 31, 32, 33, 34, 35])
  (.region s_gnomonlaw01_BitsOrder_r8 [] [36, 37, 38, 39, 40, 41, 42, 43, 44]))))
  (.regionE s_gnomonlaw01_BitsOrder_r9 [18, 19] [7])))
def s_gnomonlaw01_BitsOrder_l0 : ACode := s_gnomonlaw01_BitsOrder_l0_b
theorem s_gnomonlaw01_BitsOrder_l0_ev (call : CallF) (it : IterF) (base : Nat) (fr : List V) (H : Heap) : evC call it base s_gnomonlaw01_BitsOrder_l0 fr H = evC call it base s_gnomonlaw01_BitsOrder_l0_b fr H := rfl
def s_gnomonlaw01_BitsOrder_r10t15 : List AOper := [⟨some 63, (.pick (.t 61) (.t 62) (.c (.s (.bool false)))), none⟩, ⟨some 4, (.move (.t 63)), none⟩]
def s_gnomonlaw01_BitsOrder_r10p14 : List AOper := [⟨some 62, (.call (.c (.fn 10 [] [])) []), some (61, true)⟩]
def s_gnomonlaw01_BitsOrder_r10t14 : List AOper := s_gnomonlaw01_BitsOrder_r10p14 ++ s_gnomonlaw01_BitsOrder_r10t15
def s_gnomonlaw01_BitsOrder_r10p13 : List AOper := [⟨some 60, (.pick (.t 55) (.t 59) (.c (.s (.bool false)))), none⟩, ⟨some 61, (.move (.t 60)), none⟩]
def s_gnomonlaw01_BitsOrder_r10t13 : List AOper := s_gnomonlaw01_BitsOrder_r10p13 ++ s_gnomonlaw01_BitsOrder_r10t14
def s_gnomonlaw01_BitsOrder_r10p12 : List AOper := [⟨some 59, (.call (.c (.fn 14 [] [])) [(.t 56), (.t 58)]), some (55, true)⟩]
def s_gnomonlaw01_BitsOrder_r10t12 : List AOper := s_gnomonlaw01_BitsOrder_r10p12 ++ s_gnomonlaw01_BitsOrder_r10t13
def s_gnomonlaw01_BitsOrder_r10p11 : List AOper := [⟨some 58, (.call (.c (.fn 11 [] [])) [(.t 57)]), some (55, true)⟩]
def s_gnomonlaw01_BitsOrder_r10t11 : List AOper := s_gnomonlaw01_BitsOrder_r10p11 ++ s_gnomonlaw01_BitsOrder_r10t12
def s_gnomonlaw01_BitsOrder_r10p10 : List AOper := [⟨some 57, (.move (.t 0)), some (55, true)⟩]
def s_gnomonlaw01_BitsOrder_r10t10 : List AOper := s_gnomonlaw01_BitsOrder_r10p10 ++ s_gnomonlaw01_BitsOrder_r10t11
def s_gnomonlaw01_BitsOrder_r10p9 : List AOper := [⟨some 56, (.move (.t 5)), some (55, true)⟩]
def s_gnomonlaw01_BitsOrder_r10t9 : List AOper := s_gnomonlaw01_BitsOrder_r10p9 ++ s_gnomonlaw01_BitsOrder_r10t10
def s_gnomonlaw01_BitsOrder_r10p8 : List AOper := [⟨some 54, (.pick (.t 48) (.t 53) (.c (.s (.bool false)))), none⟩, ⟨some 55, (.move (.t 54)), none⟩]
def s_gnomonlaw01_BitsOrder_r10t8 : List AOper := s_gnomonlaw01_BitsOrder_r10p8 ++ s_gnomonlaw01_BitsOrder_r10t9
def s_gnomonlaw01_BitsOrder_r10p7 : List AOper := [⟨some 53, (.call (.c (.fn 15 [] [])) [(.t 50), (.t 52)]), some (48, true)⟩]
def s_gnomonlaw01_BitsOrder_r10t7 : List AOper := s_gnomonlaw01_BitsOrder_r10p7 ++ s_gnomonlaw01_BitsOrder_r10t8
def s_gnomonlaw01_BitsOrder_r10p6 : List AOper := [⟨some 52, (.call (.c (.fn 16 [] [])) [(.t 51)]), some (48, true)⟩]
def s_gnomonlaw01_BitsOrder_r10t6 : List AOper := s_gnomonlaw01_BitsOrder_r10p6 ++ s_gnomonlaw01_BitsOrder_r10t7
def s_gnomonlaw01_BitsOrder_r10p5 : List AOper := [⟨some 51, (.move (.t 6)), some (48, true)⟩]
def s_gnomonlaw01_BitsOrder_r10t5 : List AOper := s_gnomonlaw01_BitsOrder_r10p5 ++ s_gnomonlaw01_BitsOrder_r10t6
def s_gnomonlaw01_BitsOrder_r10p4 : List AOper := [⟨some 50, (.call (.c (.fn 16 [] [])) [(.t 49)]), some (48, true)⟩]
def s_gnomonlaw01_BitsOrder_r10t4 : List AOper := s_gnomonlaw01_BitsOrder_r10p4 ++ s_gnomonlaw01_BitsOrder_r10t5
def s_gnomonlaw01_BitsOrder_r10p3 : List AOper := [⟨some 49, (.move (.t 5)), some (48, true)⟩]
def s_gnomonlaw01_BitsOrder_r10t3 : List AOper := s_gnomonlaw01_BitsOrder_r10p3 ++ s_gnomonlaw01_BitsOrder_r10t4
def s_gnomonlaw01_BitsOrder_r10p2 : List AOper := [⟨some 48, (.move (.t 47)), none⟩]
def s_gnomonlaw01_BitsOrder_r10t2 : List AOper := s_gnomonlaw01_BitsOrder_r10p2 ++ s_gnomonlaw01_BitsOrder_r10t3
def s_gnomonlaw01_BitsOrder_r10p1 : List AOper := [⟨some 47, (.call (.c (.fn 14 [] [])) [(.t 45), (.t 46)]), none⟩]
def s_gnomonlaw01_BitsOrder_r10t1 : List AOper := s_gnomonlaw01_BitsOrder_r10p1 ++ s_gnomonlaw01_BitsOrder_r10t2
def s_gnomonlaw01_BitsOrder_r10p0 : List AOper := [⟨some 45, (.move (.t 5)), none⟩, ⟨some 46, (.move (.t 6)), none⟩]
def s_gnomonlaw01_BitsOrder_r10 : List AOper := s_gnomonlaw01_BitsOrder_r10p0 ++ s_gnomonlaw01_BitsOrder_r10t1
theorem s_gnomonlaw01_BitsOrder_r10p0_tale (fr : List V) (H : Heap) : evTale (symAll s_gnomonlaw01_BitsOrder_r10p0 [1, 7, 17] [45, 46]) [1, 7, 17] fr H = evTale (some (47, [], [(45, (.t 5)), (46, (.t 6))])) [1, 7, 17] fr H := tale_row (items := [.tt 5, .tt 6]) (by kernel_rfl) fr H
theorem s_gnomonlaw01_BitsOrder_r10_x (call : CallF) (it : IterF) (base : Nat) (f : List V) (H : Heap) : evC call it base (.region s_gnomonlaw01_BitsOrder_r10 [] [0, 1, 5, 6, 7, 17, 45, 46, 47, 48, 49, 50, 51, 52, 53, 54, 55, 56, 57, 58, 59, 60, 61, 62, 63]) f H = segC call it base s_gnomonlaw01_BitsOrder_r10t1 [0, 1, 5, 6, 7, 17, 45, 46, 47, 48, 49, 50, 51, 52, 53, 54, 55, 56, 57, 58, 59, 60, 61, 62, 63] H (evTale (symAll s_gnomonlaw01_BitsOrder_r10p0 [1, 7, 17] [45, 46]) [1, 7, 17] f H) (origRow call it base s_gnomonlaw01_BitsOrder_r10 [0, 1, 5, 6, 7, 17, 45, 46, 47, 48, 49, 50, 51, 52, 53, 54, 55, 56, 57, 58, 59, 60, 61, 62, 63] f H) := row_seg call it base s_gnomonlaw01_BitsOrder_r10p0 s_gnomonlaw01_BitsOrder_r10t1 (by kernel_rfl) f H
theorem s_gnomonlaw01_BitsOrder_r10t1_x (call : CallF) (it : IterF) (base : Nat) (f : List V) (H : Heap) : evC call it base (.region s_gnomonlaw01_BitsOrder_r10t1 [] [0, 1, 5, 6, 7, 17, 45, 46, 47, 48, 49, 50, 51, 52, 53, 54, 55, 56, 57, 58, 59, 60, 61, 62, 63]) f H = thenC call it base (.region s_gnomonlaw01_BitsOrder_r10t2 [] [0, 1, 5, 6, 7, 17, 45, 46, 47, 48, 49, 50, 51, 52, 53, 54, 55, 56, 57, 58, 59, 60, 61, 62, 63]) (opsC [] s_gnomonlaw01_BitsOrder_r10p1 [45, 46] (evOps call base [⟨some 47, (.call (.c (.fn 14 [] [])) [(.t 45), (.t 46)]), none⟩] f H)) := (row_op call it base s_gnomonlaw01_BitsOrder_r10p1 s_gnomonlaw01_BitsOrder_r10t2 (kc := [45, 46]) (by kernel_rfl) f H).trans (by rw [row_ops]; rfl)
theorem s_gnomonlaw01_BitsOrder_r10p2_tale (fr : List V) (H : Heap) : evTale (symAll s_gnomonlaw01_BitsOrder_r10p2 [47] [48]) [47] fr H = evTale (some (49, [], [(48, (.t 47))])) [47] fr H := tale_row (items := [.tt 47]) (by kernel_rfl) fr H
theorem s_gnomonlaw01_BitsOrder_r10t2_x (call : CallF) (it : IterF) (base : Nat) (f : List V) (H : Heap) : evC call it base (.region s_gnomonlaw01_BitsOrder_r10t2 [] [0, 1, 5, 6, 7, 17, 45, 46, 47, 48, 49, 50, 51, 52, 53, 54, 55, 56, 57, 58, 59, 60, 61, 62, 63]) f H = segC call it base s_gnomonlaw01_BitsOrder_r10t3 [0, 1, 5, 6, 7, 17, 45, 46, 47, 48, 49, 50, 51, 52, 53, 54, 55, 56, 57, 58, 59, 60, 61, 62, 63] H (evTale (symAll s_gnomonlaw01_BitsOrder_r10p2 [47] [48]) [47] f H) (origRow call it base s_gnomonlaw01_BitsOrder_r10t2 [0, 1, 5, 6, 7, 17, 45, 46, 47, 48, 49, 50, 51, 52, 53, 54, 55, 56, 57, 58, 59, 60, 61, 62, 63] f H) := row_seg call it base s_gnomonlaw01_BitsOrder_r10p2 s_gnomonlaw01_BitsOrder_r10t3 (by kernel_rfl) f H
theorem s_gnomonlaw01_BitsOrder_r10t3_x (call : CallF) (it : IterF) (base : Nat) (f : List V) (H : Heap) : evC call it base (.region s_gnomonlaw01_BitsOrder_r10t3 [] [0, 1, 5, 6, 7, 17, 45, 46, 47, 48, 49, 50, 51, 52, 53, 54, 55, 56, 57, 58, 59, 60, 61, 62, 63]) f H = thenC call it base (.region s_gnomonlaw01_BitsOrder_r10t4 [] [0, 1, 5, 6, 7, 17, 45, 46, 47, 48, 49, 50, 51, 52, 53, 54, 55, 56, 57, 58, 59, 60, 61, 62, 63]) (opsC [] s_gnomonlaw01_BitsOrder_r10p3 [] (evOps call base [⟨some 49, (.move (.t 5)), some (48, true)⟩] f H)) := (row_op call it base s_gnomonlaw01_BitsOrder_r10p3 s_gnomonlaw01_BitsOrder_r10t4 (kc := []) (by kernel_rfl) f H).trans (by rw [row_ops]; rfl)
theorem s_gnomonlaw01_BitsOrder_r10t4_x (call : CallF) (it : IterF) (base : Nat) (f : List V) (H : Heap) : evC call it base (.region s_gnomonlaw01_BitsOrder_r10t4 [] [0, 1, 5, 6, 7, 17, 45, 46, 47, 48, 49, 50, 51, 52, 53, 54, 55, 56, 57, 58, 59, 60, 61, 62, 63]) f H = thenC call it base (.region s_gnomonlaw01_BitsOrder_r10t5 [] [0, 1, 5, 6, 7, 17, 45, 46, 47, 48, 49, 50, 51, 52, 53, 54, 55, 56, 57, 58, 59, 60, 61, 62, 63]) (opsC [] s_gnomonlaw01_BitsOrder_r10p4 [49] (evOps call base [⟨some 50, (.call (.c (.fn 16 [] [])) [(.t 49)]), some (48, true)⟩] f H)) := (row_op call it base s_gnomonlaw01_BitsOrder_r10p4 s_gnomonlaw01_BitsOrder_r10t5 (kc := [49]) (by kernel_rfl) f H).trans (by rw [row_ops]; rfl)
theorem s_gnomonlaw01_BitsOrder_r10t5_x (call : CallF) (it : IterF) (base : Nat) (f : List V) (H : Heap) : evC call it base (.region s_gnomonlaw01_BitsOrder_r10t5 [] [0, 1, 5, 6, 7, 17, 45, 46, 47, 48, 49, 50, 51, 52, 53, 54, 55, 56, 57, 58, 59, 60, 61, 62, 63]) f H = thenC call it base (.region s_gnomonlaw01_BitsOrder_r10t6 [] [0, 1, 5, 6, 7, 17, 45, 46, 47, 48, 49, 50, 51, 52, 53, 54, 55, 56, 57, 58, 59, 60, 61, 62, 63]) (opsC [] s_gnomonlaw01_BitsOrder_r10p5 [6] (evOps call base [⟨some 51, (.move (.t 6)), some (48, true)⟩] f H)) := (row_op call it base s_gnomonlaw01_BitsOrder_r10p5 s_gnomonlaw01_BitsOrder_r10t6 (kc := [6]) (by kernel_rfl) f H).trans (by rw [row_ops]; rfl)
theorem s_gnomonlaw01_BitsOrder_r10t6_x (call : CallF) (it : IterF) (base : Nat) (f : List V) (H : Heap) : evC call it base (.region s_gnomonlaw01_BitsOrder_r10t6 [] [0, 1, 5, 6, 7, 17, 45, 46, 47, 48, 49, 50, 51, 52, 53, 54, 55, 56, 57, 58, 59, 60, 61, 62, 63]) f H = thenC call it base (.region s_gnomonlaw01_BitsOrder_r10t7 [] [0, 1, 5, 6, 7, 17, 45, 46, 47, 48, 49, 50, 51, 52, 53, 54, 55, 56, 57, 58, 59, 60, 61, 62, 63]) (opsC [] s_gnomonlaw01_BitsOrder_r10p6 [51] (evOps call base [⟨some 52, (.call (.c (.fn 16 [] [])) [(.t 51)]), some (48, true)⟩] f H)) := (row_op call it base s_gnomonlaw01_BitsOrder_r10p6 s_gnomonlaw01_BitsOrder_r10t7 (kc := [51]) (by kernel_rfl) f H).trans (by rw [row_ops]; rfl)
theorem s_gnomonlaw01_BitsOrder_r10t7_x (call : CallF) (it : IterF) (base : Nat) (f : List V) (H : Heap) : evC call it base (.region s_gnomonlaw01_BitsOrder_r10t7 [] [0, 1, 5, 6, 7, 17, 45, 46, 47, 48, 49, 50, 51, 52, 53, 54, 55, 56, 57, 58, 59, 60, 61, 62, 63]) f H = thenC call it base (.region s_gnomonlaw01_BitsOrder_r10t8 [] [0, 1, 5, 6, 7, 17, 45, 46, 47, 48, 49, 50, 51, 52, 53, 54, 55, 56, 57, 58, 59, 60, 61, 62, 63]) (opsC [] s_gnomonlaw01_BitsOrder_r10p7 [50, 52] (evOps call base [⟨some 53, (.call (.c (.fn 15 [] [])) [(.t 50), (.t 52)]), some (48, true)⟩] f H)) := (row_op call it base s_gnomonlaw01_BitsOrder_r10p7 s_gnomonlaw01_BitsOrder_r10t8 (kc := [50, 52]) (by kernel_rfl) f H).trans (by rw [row_ops]; rfl)
theorem s_gnomonlaw01_BitsOrder_r10p8_tale (fr : List V) (H : Heap) : evTale (symAll s_gnomonlaw01_BitsOrder_r10p8 [48, 53, 54] [55]) [48, 53, 54] fr H = evTale (some (56, [], [(55, (.pick (.t 48) (.t 53) (.c (.s (.bool false)))))])) [48, 53, 54] fr H := tale_row (items := [.sub 0 [] [], .sub 0 [] []]) (by kernel_rfl) fr H
theorem s_gnomonlaw01_BitsOrder_r10t8_x (call : CallF) (it : IterF) (base : Nat) (f : List V) (H : Heap) : evC call it base (.region s_gnomonlaw01_BitsOrder_r10t8 [] [0, 1, 5, 6, 7, 17, 45, 46, 47, 48, 49, 50, 51, 52, 53, 54, 55, 56, 57, 58, 59, 60, 61, 62, 63]) f H = segC call it base s_gnomonlaw01_BitsOrder_r10t9 [0, 1, 5, 6, 7, 17, 45, 46, 47, 48, 49, 50, 51, 52, 53, 54, 55, 56, 57, 58, 59, 60, 61, 62, 63] H (evTale (symAll s_gnomonlaw01_BitsOrder_r10p8 [48, 53, 54] [55]) [48, 53, 54] f H) (origRow call it base s_gnomonlaw01_BitsOrder_r10t8 [0, 1, 5, 6, 7, 17, 45, 46, 47, 48, 49, 50, 51, 52, 53, 54, 55, 56, 57, 58, 59, 60, 61, 62, 63] f H) := row_seg call it base s_gnomonlaw01_BitsOrder_r10p8 s_gnomonlaw01_BitsOrder_r10t9 (by kernel_rfl) f H
theorem s_gnomonlaw01_BitsOrder_r10t9_x (call : CallF) (it : IterF) (base : Nat) (f : List V) (H : Heap) : evC call it base (.region s_gnomonlaw01_BitsOrder_r10t9 [] [0, 1, 5, 6, 7, 17, 45, 46, 47, 48, 49, 50, 51, 52, 53, 54, 55, 56, 57, 58, 59, 60, 61, 62, 63]) f H = thenC call it base (.region s_gnomonlaw01_BitsOrder_r10t10 [] [0, 1, 5, 6, 7, 17, 45, 46, 47, 48, 49, 50, 51, 52, 53, 54, 55, 56, 57, 58, 59, 60, 61, 62, 63]) (opsC [] s_gnomonlaw01_BitsOrder_r10p9 [5] (evOps call base [⟨some 56, (.move (.t 5)), some (55, true)⟩] f H)) := (row_op call it base s_gnomonlaw01_BitsOrder_r10p9 s_gnomonlaw01_BitsOrder_r10t10 (kc := [5]) (by kernel_rfl) f H).trans (by rw [row_ops]; rfl)
theorem s_gnomonlaw01_BitsOrder_r10t10_x (call : CallF) (it : IterF) (base : Nat) (f : List V) (H : Heap) : evC call it base (.region s_gnomonlaw01_BitsOrder_r10t10 [] [0, 1, 5, 6, 7, 17, 45, 46, 47, 48, 49, 50, 51, 52, 53, 54, 55, 56, 57, 58, 59, 60, 61, 62, 63]) f H = thenC call it base (.region s_gnomonlaw01_BitsOrder_r10t11 [] [0, 1, 5, 6, 7, 17, 45, 46, 47, 48, 49, 50, 51, 52, 53, 54, 55, 56, 57, 58, 59, 60, 61, 62, 63]) (opsC [] s_gnomonlaw01_BitsOrder_r10p10 [0] (evOps call base [⟨some 57, (.move (.t 0)), some (55, true)⟩] f H)) := (row_op call it base s_gnomonlaw01_BitsOrder_r10p10 s_gnomonlaw01_BitsOrder_r10t11 (kc := [0]) (by kernel_rfl) f H).trans (by rw [row_ops]; rfl)
theorem s_gnomonlaw01_BitsOrder_r10t11_x (call : CallF) (it : IterF) (base : Nat) (f : List V) (H : Heap) : evC call it base (.region s_gnomonlaw01_BitsOrder_r10t11 [] [0, 1, 5, 6, 7, 17, 45, 46, 47, 48, 49, 50, 51, 52, 53, 54, 55, 56, 57, 58, 59, 60, 61, 62, 63]) f H = thenC call it base (.region s_gnomonlaw01_BitsOrder_r10t12 [] [0, 1, 5, 6, 7, 17, 45, 46, 47, 48, 49, 50, 51, 52, 53, 54, 55, 56, 57, 58, 59, 60, 61, 62, 63]) (opsC [] s_gnomonlaw01_BitsOrder_r10p11 [57] (evOps call base [⟨some 58, (.call (.c (.fn 11 [] [])) [(.t 57)]), some (55, true)⟩] f H)) := (row_op call it base s_gnomonlaw01_BitsOrder_r10p11 s_gnomonlaw01_BitsOrder_r10t12 (kc := [57]) (by kernel_rfl) f H).trans (by rw [row_ops]; rfl)
theorem s_gnomonlaw01_BitsOrder_r10t12_x (call : CallF) (it : IterF) (base : Nat) (f : List V) (H : Heap) : evC call it base (.region s_gnomonlaw01_BitsOrder_r10t12 [] [0, 1, 5, 6, 7, 17, 45, 46, 47, 48, 49, 50, 51, 52, 53, 54, 55, 56, 57, 58, 59, 60, 61, 62, 63]) f H = thenC call it base (.region s_gnomonlaw01_BitsOrder_r10t13 [] [0, 1, 5, 6, 7, 17, 45, 46, 47, 48, 49, 50, 51, 52, 53, 54, 55, 56, 57, 58, 59, 60, 61, 62, 63]) (opsC [] s_gnomonlaw01_BitsOrder_r10p12 [56, 58] (evOps call base [⟨some 59, (.call (.c (.fn 14 [] [])) [(.t 56), (.t 58)]), some (55, true)⟩] f H)) := (row_op call it base s_gnomonlaw01_BitsOrder_r10p12 s_gnomonlaw01_BitsOrder_r10t13 (kc := [56, 58]) (by kernel_rfl) f H).trans (by rw [row_ops]; rfl)
theorem s_gnomonlaw01_BitsOrder_r10p13_tale (fr : List V) (H : Heap) : evTale (symAll s_gnomonlaw01_BitsOrder_r10p13 [55, 59, 60] [61]) [55, 59, 60] fr H = evTale (some (62, [], [(61, (.pick (.t 55) (.t 59) (.c (.s (.bool false)))))])) [55, 59, 60] fr H := tale_row (items := [.sub 0 [] [], .sub 0 [] []]) (by kernel_rfl) fr H
theorem s_gnomonlaw01_BitsOrder_r10t13_x (call : CallF) (it : IterF) (base : Nat) (f : List V) (H : Heap) : evC call it base (.region s_gnomonlaw01_BitsOrder_r10t13 [] [0, 1, 5, 6, 7, 17, 45, 46, 47, 48, 49, 50, 51, 52, 53, 54, 55, 56, 57, 58, 59, 60, 61, 62, 63]) f H = segC call it base s_gnomonlaw01_BitsOrder_r10t14 [0, 1, 5, 6, 7, 17, 45, 46, 47, 48, 49, 50, 51, 52, 53, 54, 55, 56, 57, 58, 59, 60, 61, 62, 63] H (evTale (symAll s_gnomonlaw01_BitsOrder_r10p13 [55, 59, 60] [61]) [55, 59, 60] f H) (origRow call it base s_gnomonlaw01_BitsOrder_r10t13 [0, 1, 5, 6, 7, 17, 45, 46, 47, 48, 49, 50, 51, 52, 53, 54, 55, 56, 57, 58, 59, 60, 61, 62, 63] f H) := row_seg call it base s_gnomonlaw01_BitsOrder_r10p13 s_gnomonlaw01_BitsOrder_r10t14 (by kernel_rfl) f H
theorem s_gnomonlaw01_BitsOrder_r10t14_x (call : CallF) (it : IterF) (base : Nat) (f : List V) (H : Heap) : evC call it base (.region s_gnomonlaw01_BitsOrder_r10t14 [] [0, 1, 5, 6, 7, 17, 45, 46, 47, 48, 49, 50, 51, 52, 53, 54, 55, 56, 57, 58, 59, 60, 61, 62, 63]) f H = thenC call it base (.region s_gnomonlaw01_BitsOrder_r10t15 [] [0, 1, 5, 6, 7, 17, 45, 46, 47, 48, 49, 50, 51, 52, 53, 54, 55, 56, 57, 58, 59, 60, 61, 62, 63]) (opsC [] s_gnomonlaw01_BitsOrder_r10p14 [] (evOps call base [⟨some 62, (.call (.c (.fn 10 [] [])) []), some (61, true)⟩] f H)) := (row_op call it base s_gnomonlaw01_BitsOrder_r10p14 s_gnomonlaw01_BitsOrder_r10t15 (kc := []) (by kernel_rfl) f H).trans (by rw [row_ops]; rfl)
theorem s_gnomonlaw01_BitsOrder_r10t15_tale (fr : List V) (H : Heap) : evTale (symAll s_gnomonlaw01_BitsOrder_r10t15 [0, 1, 5, 6, 7, 17, 45, 46, 47, 48, 49, 50, 51, 52, 53, 54, 55, 56, 57, 58, 59, 60, 61, 62, 63] [4]) [0, 1, 5, 6, 7, 17, 45, 46, 47, 48, 49, 50, 51, 52, 53, 54, 55, 56, 57, 58, 59, 60, 61, 62, 63] fr H = evTale (some (64, [], [(4, (.pick (.t 61) (.t 62) (.c (.s (.bool false)))))])) [0, 1, 5, 6, 7, 17, 45, 46, 47, 48, 49, 50, 51, 52, 53, 54, 55, 56, 57, 58, 59, 60, 61, 62, 63] fr H := tale_row (items := [.sub 0 [] [], .sub 0 [] []]) (by kernel_rfl) fr H
theorem s_gnomonlaw01_BitsOrder_r10t15_x (call : CallF) (it : IterF) (base : Nat) (f : List V) (H : Heap) : evC call it base (.region s_gnomonlaw01_BitsOrder_r10t15 [] [0, 1, 5, 6, 7, 17, 45, 46, 47, 48, 49, 50, 51, 52, 53, 54, 55, 56, 57, 58, 59, 60, 61, 62, 63]) f H = segL H (evTale (symAll s_gnomonlaw01_BitsOrder_r10t15 [0, 1, 5, 6, 7, 17, 45, 46, 47, 48, 49, 50, 51, 52, 53, 54, 55, 56, 57, 58, 59, 60, 61, 62, 63] [4]) [0, 1, 5, 6, 7, 17, 45, 46, 47, 48, 49, 50, 51, 52, 53, 54, 55, 56, 57, 58, 59, 60, 61, 62, 63] f H) (origRow call it base s_gnomonlaw01_BitsOrder_r10t15 [0, 1, 5, 6, 7, 17, 45, 46, 47, 48, 49, 50, 51, 52, 53, 54, 55, 56, 57, 58, 59, 60, 61, 62, 63] f H) := row_last call it base _ f H
def s_gnomonlaw01_BitsOrder : ACFun := { ntmps := 64, results := [(.tmp 4)], body :=
  (.seq (.regionE s_gnomonlaw01_BitsOrder_r0 s_gnomonlaw01_BitsOrder_r0_k [])
  (.seq (.seq (.regionE s_gnomonlaw01_BitsOrder_r1 [8, 9] [10])
  (.cond (.t 10)
  (.seq (.region s_gnomonlaw01_BitsOrder_r2 [] [0, 1, 10, 11])
  .ret)
  .skip))
  (.seq (.region s_gnomonlaw01_BitsOrder_r3 [] [10, 12, 13])
  (.seq (.seq (.regionE s_gnomonlaw01_BitsOrder_r4 [] [7])
  (.block 0
  (.loop [] s_gnomonlaw01_BitsOrder_l0)))
  (.seq (.region s_gnomonlaw01_BitsOrder_r10 [] [0, 1, 5, 6, 7, 17, 45, 46, 47, 48, 49, 50, 51, 52, 53, 54, 55, 56, 57, 58, 59, 60, 61, 62, 63])
  .ret))))) }
abbrev k_gnomonlaw01_place : Nat := 13
def s_gnomonlaw01_place_r0_k : List Nat := [2, 3, 4, 5, 6, 7, 8, 9, 10, 11, 12, 13, 14]
theorem s_gnomonlaw01_place_r0_kT : killV s_gnomonlaw01_place_r0_k (startV 15 [] 2) = [] := by kernel_rfl
theorem s_gnomonlaw01_place_r0_kA0 : s_gnomonlaw01_place_r0_k.contains 0 = false := by kernel_rfl
theorem s_gnomonlaw01_place_r0_kA1 : s_gnomonlaw01_place_r0_k.contains 1 = false := by kernel_rfl
def s_gnomonlaw01_place_r0 : List AOper := [
  ⟨some 4, (.move (.c (.s (.int .i64 0)))), none⟩]
theorem s_gnomonlaw01_place_r0_tale (fr : List V) (H : Heap) : evTale (symAll s_gnomonlaw01_place_r0 s_gnomonlaw01_place_r0_k []) s_gnomonlaw01_place_r0_k fr H = evTale (some (5, [], [])) s_gnomonlaw01_place_r0_k fr H := tale_row (items := [.cc (.s (.int .i64 0))]) (by kernel_rfl) fr H
def s_gnomonlaw01_place_r1 : List AOper := [
  ⟨some 6, (.move (.t 0)), none⟩,
  ⟨some 7, (.move (.t 1)), none⟩,
  ⟨some 8, (.bin .rem (.t 6) (.t 7)), none⟩,
  ⟨some 5, (.move (.t 8)), none⟩]
theorem s_gnomonlaw01_place_r1_tale (fr : List V) (H : Heap) : evTale (symAll s_gnomonlaw01_place_r1 [0, 6, 7, 8] [5]) [0, 6, 7, 8] fr H = evTale (some (9, [], [(5, (.op (.bin .rem (.t 0) (.t 1)) [(.t 0), (.t 1)]))])) [0, 6, 7, 8] fr H := tale_row (items := [.tt 0, .tt 1, .sub 0 [] [], .sub 0 [] []]) (by kernel_rfl) fr H
def s_gnomonlaw01_place_r2 : List AOper := [
  ⟨some 9, (.move (.t 5)), none⟩,
  ⟨some 10, (.bin .lss (.t 9) (.c (.s (.int .i64 0)))), none⟩]
theorem s_gnomonlaw01_place_r2_tale (fr : List V) (H : Heap) : evTale (symAll s_gnomonlaw01_place_r2 [9] [10]) [9] fr H = evTale (some (11, [], [(10, (.op (.bin .lss (.t 0) (.c (.s (.int .i64 0)))) [(.t 5), (.c (.s (.int .i64 0)))]))])) [9] fr H := tale_row (items := [.tt 5, .sub 0 [] []]) (by kernel_rfl) fr H
def s_gnomonlaw01_place_r3 : List AOper := [
  ⟨some 11, (.move (.t 5)), none⟩,
  ⟨some 12, (.move (.t 1)), none⟩,
  ⟨some 13, (.bin .add (.t 11) (.t 12)), none⟩,
  ⟨some 5, (.move (.t 13)), none⟩]
theorem s_gnomonlaw01_place_r3_tale (fr : List V) (H : Heap) : evTale (symAll s_gnomonlaw01_place_r3 [1, 10, 11, 12, 13] [5]) [1, 10, 11, 12, 13] fr H = evTale (some (14, [], [(5, (.op (.bin .add (.t 0) (.t 1)) [(.t 5), (.t 1)]))])) [1, 10, 11, 12, 13] fr H := tale_row (items := [.tt 5, .tt 1, .sub 0 [] [], .sub 0 [] []]) (by kernel_rfl) fr H
def s_gnomonlaw01_place_r4 : List AOper := [
  ⟨some 14, (.move (.t 5)), none⟩,
  ⟨some 4, (.move (.t 14)), none⟩]
theorem s_gnomonlaw01_place_r4_tale (fr : List V) (H : Heap) : evTale (symAll s_gnomonlaw01_place_r4 [1, 5, 10, 14] [4]) [1, 5, 10, 14] fr H = evTale (some (15, [], [(4, (.t 5))])) [1, 5, 10, 14] fr H := tale_row (items := [.tt 5, .tt 5]) (by kernel_rfl) fr H
def s_gnomonlaw01_place : ACFun := { ntmps := 15, results := [(.tmp 4)], body :=
  (.seq (.regionE s_gnomonlaw01_place_r0 s_gnomonlaw01_place_r0_k [])
  (.seq (.regionE s_gnomonlaw01_place_r1 [0, 6, 7, 8] [5])
  (.seq (.seq (.regionE s_gnomonlaw01_place_r2 [9] [10])
  (.cond (.t 10)
  (.regionE s_gnomonlaw01_place_r3 [1, 10, 11, 12, 13] [5])
  .skip))
  (.seq (.regionE s_gnomonlaw01_place_r4 [1, 5, 10, 14] [4])
  .ret)))) }
abbrev k_gnomonref01_Same : Nat := 15
def s_gnomonref01_Same_r0_k : List Nat := [2, 3, 4, 5, 6, 7, 8, 9, 10, 11, 12, 13, 14, 15, 16, 17, 18, 19, 20, 21, 22, 23, 24, 25]
theorem s_gnomonref01_Same_r0_kT : killV s_gnomonref01_Same_r0_k (startV 26 [] 2) = [] := by kernel_rfl
theorem s_gnomonref01_Same_r0_kA0 : s_gnomonref01_Same_r0_k.contains 0 = false := by kernel_rfl
theorem s_gnomonref01_Same_r0_kA1 : s_gnomonref01_Same_r0_k.contains 1 = false := by kernel_rfl
def s_gnomonref01_Same_r0 : List AOper := [
  ⟨some 4, (.move (.c (.s (.bool false)))), none⟩]
theorem s_gnomonref01_Same_r0_tale (fr : List V) (H : Heap) : evTale (symAll s_gnomonref01_Same_r0 s_gnomonref01_Same_r0_k []) s_gnomonref01_Same_r0_k fr H = evTale (some (5, [], [])) s_gnomonref01_Same_r0_k fr H := tale_row (items := [.cc (.s (.bool false))]) (by kernel_rfl) fr H
def s_gnomonref01_Same_r1 : List AOper := [
  ⟨some 6, (.move (.t 0)), none⟩,
  ⟨some 7, (.lenS .s (.t 6)), none⟩,
  ⟨some 8, (.move (.t 1)), none⟩,
  ⟨some 9, (.lenS .s (.t 8)), none⟩,
  ⟨some 10, (.bin .neq (.t 7) (.t 9)), none⟩]
theorem s_gnomonref01_Same_r1_tale (fr : List V) (H : Heap) : evTale (symAll s_gnomonref01_Same_r1 [6, 7, 8, 9] [10]) [6, 7, 8, 9] fr H = evTale (some (11, [], [(10, (.op (.bin .neq (.t 0) (.t 1)) [(.op (.lenS .s (.t 0)) [(.t 0)]), (.op (.lenS .s (.t 0)) [(.t 1)])]))])) [6, 7, 8, 9] fr H := tale_row (items := [.tt 0, .sub 0 [0] [], .tt 1, .sub 0 [1] [], .sub 0 [] []]) (by kernel_rfl) fr H
def s_gnomonref01_Same_r2 : List AOper := [
  ⟨some 4, (.move (.c (.s (.bool false)))), none⟩]
theorem s_gnomonref01_Same_r2_tale (fr : List V) (H : Heap) : evTale (symAll s_gnomonref01_Same_r2 [0, 1, 10] [4]) [0, 1, 10] fr H = evTale (some (5, [], [(4, (.c (.s (.bool false))))])) [0, 1, 10] fr H := tale_row (items := [.cc (.s (.bool false))]) (by kernel_rfl) fr H
def s_gnomonref01_Same_r3 : List AOper := [
  ⟨some 5, (.move (.c (.s (.int .i64 0)))), none⟩]
theorem s_gnomonref01_Same_r3_tale (fr : List V) (H : Heap) : evTale (symAll s_gnomonref01_Same_r3 [10] [5]) [10] fr H = evTale (some (6, [], [(5, (.c (.s (.int .i64 0))))])) [10] fr H := tale_row (items := [.cc (.s (.int .i64 0))]) (by kernel_rfl) fr H
def s_gnomonref01_Same_r4 : List AOper := [
  ⟨some 11, (.move (.t 5)), none⟩,
  ⟨some 12, (.move (.t 0)), none⟩,
  ⟨some 13, (.lenS .s (.t 12)), none⟩,
  ⟨some 14, (.bin .lss (.t 11) (.t 13)), none⟩]
theorem s_gnomonref01_Same_r4_tale (fr : List V) (H : Heap) : evTale (symAll s_gnomonref01_Same_r4 [11, 12, 13] [14]) [11, 12, 13] fr H = evTale (some (15, [], [(14, (.op (.bin .lss (.t 0) (.t 1)) [(.t 5), (.op (.lenS .s (.t 0)) [(.t 0)])]))])) [11, 12, 13] fr H := tale_row (items := [.tt 5, .tt 0, .sub 0 [1] [], .sub 0 [] []]) (by kernel_rfl) fr H
def s_gnomonref01_Same_r5 : List AOper := [
  ⟨some 17, (.move (.t 0)), none⟩,
  ⟨some 18, (.move (.t 5)), none⟩,
  ⟨some 19, (.indexAddr 1 (.t 17) (.t 18)), none⟩,
  ⟨some 20, (.load false 1 (.t 19)), none⟩,
  ⟨some 21, (.move (.t 1)), none⟩,
  ⟨some 22, (.move (.t 5)), none⟩,
  ⟨some 23, (.indexAddr 1 (.t 21) (.t 22)), none⟩,
  ⟨some 24, (.load false 1 (.t 23)), none⟩,
  ⟨some 25, (.bin .neq (.t 20) (.t 24)), none⟩]
theorem s_gnomonref01_Same_r5_tale (fr : List V) (H : Heap) : evTale (symAll s_gnomonref01_Same_r5 [14, 17, 18, 19, 20, 21, 22, 23, 24] [25]) [14, 17, 18, 19, 20, 21, 22, 23, 24] fr H = evTale (some (26, [], [(25, (.op (.bin .neq (.t 0) (.t 1)) [(.op (.load false 1 (.t 0)) [(.op (.indexAddr 1 (.t 0) (.t 1)) [(.t 0), (.t 5)])]), (.op (.load false 1 (.t 0)) [(.op (.indexAddr 1 (.t 0) (.t 1)) [(.t 1), (.t 5)])])]))])) [14, 17, 18, 19, 20, 21, 22, 23, 24] fr H := tale_row (items := [.tt 0, .tt 5, .sub 0 [0, 0] [], .sub 0 [0] [], .tt 1, .tt 5, .sub 0 [1, 0] [], .sub 0 [1] [], .sub 0 [] []]) (by kernel_rfl) fr H
def s_gnomonref01_Same_r6 : List AOper := [
  ⟨some 4, (.move (.c (.s (.bool false)))), none⟩]
theorem s_gnomonref01_Same_r6_tale (fr : List V) (H : Heap) : evTale (symAll s_gnomonref01_Same_r6 [0, 1, 5, 25] [4]) [0, 1, 5, 25] fr H = evTale (some (5, [], [(4, (.c (.s (.bool false))))])) [0, 1, 5, 25] fr H := tale_row (items := [.cc (.s (.bool false))]) (by kernel_rfl) fr H
def s_gnomonref01_Same_r7 : List AOper := [
  ⟨some 15, (.move (.t 5)), none⟩,
  ⟨some 16, (.bin .add (.t 15) (.c (.s (.int .i64 1)))), none⟩,
  ⟨some 5, (.move (.t 16)), none⟩]
theorem s_gnomonref01_Same_r7_tale (fr : List V) (H : Heap) : evTale (symAll s_gnomonref01_Same_r7 [15, 16, 25] [5]) [15, 16, 25] fr H = evTale (some (17, [], [(5, (.op (.bin .add (.t 0) (.c (.s (.int .i64 1)))) [(.t 5), (.c (.s (.int .i64 1)))]))])) [15, 16, 25] fr H := tale_row (items := [.tt 5, .sub 0 [] [], .sub 0 [] []]) (by kernel_rfl) fr H
def s_gnomonref01_Same_l0_b : ACode :=
  (.seq (.seq (.regionE s_gnomonref01_Same_r4 [11, 12, 13] [14])
  (.cond (.t 14)
  .skip
  (.exit 0)))
  (.seq (.block 1
  (.seq (.regionE s_gnomonref01_Same_r5 [14, 17, 18, 19, 20, 21, 22, 23, 24] [25])
  (.cond (.t 25)
  (.seq (.regionE s_gnomonref01_Same_r6 [0, 1, 5, 25] [4])
  .ret)
  .skip)))
  (.regionE s_gnomonref01_Same_r7 [15, 16, 25] [5])))
def s_gnomonref01_Same_l0 : ACode := s_gnomonref01_Same_l0_b
theorem s_gnomonref01_Same_l0_ev (call : CallF) (it : IterF) (base : Nat) (fr : List V) (H : Heap) : evC call it base s_gnomonref01_Same_l0 fr H = evC call it base s_gnomonref01_Same_l0_b fr H := rfl
def s_gnomonref01_Same_r8 : List AOper := [
  ⟨some 4, (.move (.c (.s (.bool true)))), none⟩]
theorem s_gnomonref01_Same_r8_tale (fr : List V) (H : Heap) : evTale (symAll s_gnomonref01_Same_r8 [0, 1, 5, 14] [4]) [0, 1, 5, 14] fr H = evTale (some (5, [], [(4, (.c (.s (.bool true))))])) [0, 1, 5, 14] fr H := tale_row (items := [.cc (.s (.bool true))]) (by kernel_rfl) fr H
def s_gnomonref01_Same : ACFun := { ntmps := 26, results := [(.tmp 4)], body :=
  (.seq (.regionE s_gnomonref01_Same_r0 s_gnomonref01_Same_r0_k [])
  (.seq (.seq (.regionE s_gnomonref01_Same_r1 [6, 7, 8, 9] [10])
  (.cond (.t 10)
  (.seq (.regionE s_gnomonref01_Same_r2 [0, 1, 10] [4])
  .ret)
  .skip))
  (.seq (.seq (.regionE s_gnomonref01_Same_r3 [10] [5])
  (.block 0
  (.loop [] s_gnomonref01_Same_l0)))
  (.seq (.regionE s_gnomonref01_Same_r8 [0, 1, 5, 14] [4])
  .ret)))) }
def a_gnomonlaw01_BitsOrder := And.intro @s_gnomonlaw01_BitsOrder_r0_tale (And.intro @s_gnomonlaw01_BitsOrder_r0_kT (And.intro @s_gnomonlaw01_BitsOrder_r0_kA0 (And.intro @s_gnomonlaw01_BitsOrder_r0_kA1 (And.intro @s_gnomonlaw01_BitsOrder_r1_tale (And.intro @s_gnomonlaw01_BitsOrder_r2_x (And.intro @s_gnomonlaw01_BitsOrder_r2t1_tale (And.intro @s_gnomonlaw01_BitsOrder_r2t1_x (And.intro @s_gnomonlaw01_BitsOrder_r3_x (And.intro @s_gnomonlaw01_BitsOrder_r3t1_x (And.intro @s_gnomonlaw01_BitsOrder_r3t2_tale (And.intro @s_gnomonlaw01_BitsOrder_r3t2_x (And.intro @s_gnomonlaw01_BitsOrder_r4_tale (And.intro @s_gnomonlaw01_BitsOrder_r5_tale (And.intro @s_gnomonlaw01_BitsOrder_r6p0_tale (And.intro @s_gnomonlaw01_BitsOrder_r6_x (And.intro @s_gnomonlaw01_BitsOrder_r6t1_x (And.intro @s_gnomonlaw01_BitsOrder_r7p0_tale (And.intro @s_gnomonlaw01_BitsOrder_r7_x (And.intro @s_gnomonlaw01_BitsOrder_r7t1_x (And.intro @s_gnomonlaw01_BitsOrder_r8p0_tale (And.intro @s_gnomonlaw01_BitsOrder_r8_x (And.intro @s_gnomonlaw01_BitsOrder_r8t1_x (And.intro @s_gnomonlaw01_BitsOrder_r8p2_tale (And.intro @s_gnomonlaw01_BitsOrder_r8t2_x (And.intro @s_gnomonlaw01_BitsOrder_r8t3_x (And.intro @s_gnomonlaw01_BitsOrder_r9_tale (And.intro @s_gnomonlaw01_BitsOrder_l0_ev (And.intro @s_gnomonlaw01_BitsOrder_r10p0_tale (And.intro @s_gnomonlaw01_BitsOrder_r10_x (And.intro @s_gnomonlaw01_BitsOrder_r10t1_x (And.intro @s_gnomonlaw01_BitsOrder_r10p2_tale (And.intro @s_gnomonlaw01_BitsOrder_r10t2_x (And.intro @s_gnomonlaw01_BitsOrder_r10t3_x (And.intro @s_gnomonlaw01_BitsOrder_r10t4_x (And.intro @s_gnomonlaw01_BitsOrder_r10t5_x (And.intro @s_gnomonlaw01_BitsOrder_r10t6_x (And.intro @s_gnomonlaw01_BitsOrder_r10t7_x (And.intro @s_gnomonlaw01_BitsOrder_r10p8_tale (And.intro @s_gnomonlaw01_BitsOrder_r10t8_x (And.intro @s_gnomonlaw01_BitsOrder_r10t9_x (And.intro @s_gnomonlaw01_BitsOrder_r10t10_x (And.intro @s_gnomonlaw01_BitsOrder_r10t11_x (And.intro @s_gnomonlaw01_BitsOrder_r10t12_x (And.intro @s_gnomonlaw01_BitsOrder_r10p13_tale (And.intro @s_gnomonlaw01_BitsOrder_r10t13_x (And.intro @s_gnomonlaw01_BitsOrder_r10t14_x (And.intro @s_gnomonlaw01_BitsOrder_r10t15_tale (@s_gnomonlaw01_BitsOrder_r10t15_x))))))))))))))))))))))))))))))))))))))))))))))))
def a_gnomonlaw01_place := And.intro @s_gnomonlaw01_place_r0_tale (And.intro @s_gnomonlaw01_place_r0_kT (And.intro @s_gnomonlaw01_place_r0_kA0 (And.intro @s_gnomonlaw01_place_r0_kA1 (And.intro @s_gnomonlaw01_place_r1_tale (And.intro @s_gnomonlaw01_place_r2_tale (And.intro @s_gnomonlaw01_place_r3_tale (@s_gnomonlaw01_place_r4_tale)))))))
def a_gnomonref01_Same := And.intro @s_gnomonref01_Same_r0_tale (And.intro @s_gnomonref01_Same_r0_kT (And.intro @s_gnomonref01_Same_r0_kA0 (And.intro @s_gnomonref01_Same_r0_kA1 (And.intro @s_gnomonref01_Same_r1_tale (And.intro @s_gnomonref01_Same_r2_tale (And.intro @s_gnomonref01_Same_r3_tale (And.intro @s_gnomonref01_Same_r4_tale (And.intro @s_gnomonref01_Same_r5_tale (And.intro @s_gnomonref01_Same_r6_tale (And.intro @s_gnomonref01_Same_r7_tale (And.intro @s_gnomonref01_Same_l0_ev (@s_gnomonref01_Same_r8_tale))))))))))))
theorem CB2_3 : compK Tryd.prog PX0 3 = some (false, s_gnomonlaw01_BitsOrder.ntmps, s_gnomonlaw01_BitsOrder.results, s_gnomonlaw01_BitsOrder.body.bare) := by kernel_rfl
theorem CB2_13 : compK Tryd.prog PX0 13 = some (false, s_gnomonlaw01_place.ntmps, s_gnomonlaw01_place.results, s_gnomonlaw01_place.body.bare) := by kernel_rfl
theorem CB2_15 : compK Tryd.prog PX0 15 = some (false, s_gnomonref01_Same.ntmps, s_gnomonref01_Same.results, s_gnomonref01_Same.body.bare) := by kernel_rfl
end Go.Proofs.YtccallbknpbggaaDoor
set_option maxRecDepth 100000
namespace Go.Proofs.YtccallbknpbggaaDoor
open Go.AM
theorem drop_cons {α : Type} {l r : List α} {x : α} {k : Nat} (h : l.drop k = x :: r) : l[k]? = some x ∧ k < l.length ∧ l.drop (k + 1) = r := by
  have hx : l[k]? = some x := by have := congrArg (·[0]?) h; simp only [List.getElem?_drop] at this; exact this
  exact ⟨hx, (List.getElem?_eq_some_iff.1 hx).1, by rw [← List.drop_drop, h]; rfl⟩
theorem drop_nil {α : Type} {l : List α} {k : Nat} (h : l.drop k = []) (hk : k ≤ l.length) : k = l.length := by
  have := congrArg List.length h
  simp at this
  omega
theorem iV_at {H : Heap} {v : V} {l : List Int} (h : Rd H v (l.map iV)) (hw : Wide1 v) {k : Nat} {x : Int} (hx : l[k]? = some x) : ∃ a, xIndexAddr 1 v (.s (.int .i64 k)) = some a ∧ xLoad H false 1 a = some (.s (.int .i64 x)) := h.at' hw (by rw [List.getElem?_map, hx]; rfl)
theorem iV_len {H : Heap} {v : V} {l : List Int} (h : Rd H v (l.map iV)) : xLen H .s v = some (.s (.int .i64 l.length)) := by have := h.len; rwa [List.length_map] at this
theorem same_loop (call : CallF) (base : Nat) (H : Heap) (v w : V) (l l2 : List Int) (hv : Rd H v (l.map iV)) (hw : Wide1 v) (hv2 : Rd H w (l2.map iV)) (hw2 : Wide1 w) (hn : l.length < 2 ^ 62) (hll : l2.length = l.length) : ∀ (r r2 : List Int) (k : Nat), l.drop k = r → l2.drop k = r2 → k ≤ l.length →
    itW (evC call itW base s_gnomonref01_Same_l0) [] H.length (frOf 26 [(0, v), (1, w), (5, .s (.int .i64 k))]) H =
      bif r == r2 then some (.ext 0, frOf 26 [(0, v), (1, w), (5, .s (.int .i64 l.length)), (14, .s (.bool false))], H) else some (.ret, frOf 26 [(4, .s (.bool false))], H) := by
  intro r
  induction r with
  | nil =>
    intro r2 k hd hd2 hk
    obtain rfl := drop_nil hd hk
    have : r2 = [] := by rw [← hd2]; exact List.drop_of_length_le (by omega)
    subst this
    rw [itW_step]
    simp only [a_gnomonref01_Same,s_gnomonref01_Same_l0_b, am0,am1,am2,am3,am4,am5,am6,am7,bl,i64,reduceIte,reduceCtorEq,Nat.reduceEqDiff,Nat.reduceLT,Nat.reduceLeDiff,Nat.reduceBEq,Nat.reduceAdd,fillA,splice,Nat.reduceMul,al0,al1,al2,al3,al4,al5,al6,al7,al8,al9,al10,al11,al12,al13,al14,al15,al16,al17,al18,al19,al20,al21,al22,al23,al24,al25,al26,al27,al28,al29,al30,al31,al32,al33,al34,amY, iV_len hv, Int.lt_irrefl, trim_same rfl, BEq.rfl]
  | cons x r ih =>
    intro r2 k hd hd2 hk
    obtain ⟨hx, hlt, hd'⟩ := drop_cons hd
    match r2, hd2 with
    | [], hd2 => have := drop_nil hd2 (by omega); omega
    | y :: r2, hd2 =>
      obtain ⟨hy, _, hd2'⟩ := drop_cons hd2
      obtain ⟨a, ha1, ha2⟩ := iV_at hv hw hx
      obtain ⟨b, hb1, hb2⟩ := iV_at hv2 hw2 hy
      have hlt' : (k : Int) < (l.length : Int) := by omega
      have hwk := wrap_pos (n := k) (by omega)
      have hc : ((x :: r) == (y :: r2)) = ((x == y) && (r == r2)) := rfl
      rw [itW_step, hc]
      cases hxy : x == y with
      | true =>
        have hne : (x != y) = false := by rw [bne, hxy]; rfl
        simp only [a_gnomonref01_Same,s_gnomonref01_Same_l0_b, am0,am1,am2,am3,am4,am5,am6,am7,bl,i64,reduceIte,reduceCtorEq,Nat.reduceEqDiff,Nat.reduceLT,Nat.reduceLeDiff,Nat.reduceBEq,Nat.reduceAdd,fillA,splice,Nat.reduceMul,al0,al1,al2,al3,al4,al5,al6,al7,al8,al9,al10,al11,al12,al13,al14,al15,al16,al17,al18,al19,al20,al21,al22,al23,al24,al25,al26,al27,al28,al29,al30,al31,al32,al33,al34,amY, iV_len hv, hlt', ha1, ha2, hb1, hb2, hne, hwk, trim_same rfl]
        exact ih r2 (k + 1) hd' hd2' (by omega)
      | false =>
        have hne : (x != y) = true := by rw [bne, hxy]; rfl
        simp only [a_gnomonref01_Same,s_gnomonref01_Same_l0_b, am0,am1,am2,am3,am4,am5,am6,am7,bl,i64,reduceIte,reduceCtorEq,Nat.reduceEqDiff,Nat.reduceLT,Nat.reduceLeDiff,Nat.reduceBEq,Nat.reduceAdd,fillA,splice,Nat.reduceMul,al0,al1,al2,al3,al4,al5,al6,al7,al8,al9,al10,al11,al12,al13,al14,al15,al16,al17,al18,al19,al20,al21,al22,al23,al24,al25,al26,al27,al28,al29,al30,al31,al32,al33,al34,amY, iV_len hv, hlt', ha1, ha2, hb1, hb2, hne, trim_same rfl]
theorem same_fun {CT : Nat → Option CFun} (hT : CT k_gnomonref01_Same = some (.code s_gnomonref01_Same)) (base : Nat) (H : Heap) (v w : V) (l l2 : List Int) (hv : Rd H v (l.map iV)) (hw : Wide1 v) (hv2 : Rd H w (l2.map iV)) (hw2 : Wide1 w) (hn : l.length < 2 ^ 62) :
    callW CT (.fn k_gnomonref01_Same [] []) [v, w] base H = some (.s (.bool (l == l2)), H) := by
  refine callW_fn (c := s_gnomonref01_Same) hT (by simp [s_gnomonref01_Same]) ?_
  by_cases hll : l.length = l2.length
  · have hl := same_loop (callW CT) base H v w l l2 hv hw hv2 hw2 hn hll.symm l l2 0 rfl rfl (Nat.zero_le _)
    rw [cast0] at hl
    have hne : (((l.length : Nat) : Int) != (l2.length : Nat)) = false := by rw [hll, bne, BEq.rfl]; rfl
    simp only [s_gnomonref01_Same, a_gnomonref01_Same,s_gnomonref01_Same_l0_b, am0,am1,am2,am3,am4,am5,am6,am7,bl,i64,reduceIte,reduceCtorEq,Nat.reduceEqDiff,Nat.reduceLT,Nat.reduceLeDiff,Nat.reduceBEq,Nat.reduceAdd,fillA,splice,Nat.reduceMul,al0,al1,al2,al3,al4,al5,al6,al7,al8,al9,al10,al11,al12,al13,al14,al15,al16,al17,al18,al19,al20,al21,al22,al23,al24,al25,al26,al27,al28,al29,al30,al31,al32,al33,al34,amY, iV_len hv, iV_len hv2, hne, hl]
    cases l == l2 <;> simp only [a_gnomonref01_Same,s_gnomonref01_Same_l0_b, am0,am1,am2,am3,am4,am5,am6,am7,bl,i64,reduceIte,reduceCtorEq,Nat.reduceEqDiff,Nat.reduceLT,Nat.reduceLeDiff,Nat.reduceBEq,Nat.reduceAdd,fillA,splice,Nat.reduceMul,al0,al1,al2,al3,al4,al5,al6,al7,al8,al9,al10,al11,al12,al13,al14,al15,al16,al17,al18,al19,al20,al21,al22,al23,al24,al25,al26,al27,al28,al29,al30,al31,al32,al33,al34,amY]
  · have hne : (((l.length : Nat) : Int) != (l2.length : Nat)) = true := by rw [bne_iff_ne]; omega
    have : (l == l2) = false := by rw [beq_eq_false_iff_ne]; intro e; exact hll (by rw [e])
    simp only [s_gnomonref01_Same, a_gnomonref01_Same,s_gnomonref01_Same_l0_b, am0,am1,am2,am3,am4,am5,am6,am7,bl,i64,reduceIte,reduceCtorEq,Nat.reduceEqDiff,Nat.reduceLT,Nat.reduceLeDiff,Nat.reduceBEq,Nat.reduceAdd,fillA,splice,Nat.reduceMul,al0,al1,al2,al3,al4,al5,al6,al7,al8,al9,al10,al11,al12,al13,al14,al15,al16,al17,al18,al19,al20,al21,al22,al23,al24,al25,al26,al27,al28,al29,al30,al31,al32,al33,al34,amY, iV_len hv, iV_len hv2, hne, this]
end Go.Proofs.YtccallbknpbggaaDoor
set_option maxRecDepth 100000
namespace Go.Proofs.YtccallbknpbggaaDoor
open Go.AM
def placeZ (i n : Int) : Int := if i.tmod n < 0 then i.tmod n + n else i.tmod n
theorem placeZ_ok {i n : Int} (hn : 0 < n) : 0 ≤ placeZ i n ∧ placeZ i n < n := by
  have h1 := Int.tmod_lt_of_pos i hn
  have h2 := Int.lt_tmod_of_pos i hn
  unfold placeZ
  split <;> omega
section
variable {CT : Nat → Option CFun}
theorem place_fun (hT : CT k_gnomonlaw01_place = some (.code s_gnomonlaw01_place)) (base : Nat) (H : Heap) (i : Int) (n : Nat) (hn : 0 < n) (hn2 : n < 2 ^ 62) :
    callW CT (.fn k_gnomonlaw01_place [] []) [.s (.int .i64 i), .s (.int .i64 n)] base H = some (.s (.int .i64 (placeZ i n)), H) := by
  refine callW_fn (c := s_gnomonlaw01_place) hT (by simp [s_gnomonlaw01_place]) ?_
  have hz : ¬ (n : Int) = 0 := by omega
  have hok := placeZ_ok (i := i) (n := n) (by omega)
  by_cases h0 : i.tmod n < 0
  · have hp : placeZ i n = i.tmod n + n := by unfold placeZ; rw [if_pos h0]
    have hw : IntKind.i64.wrap (i.tmod n + n) = i.tmod n + n := wrap_i64_id (by omega) (by omega)
    simp only [s_gnomonlaw01_place, a_gnomonlaw01_place, am0,am1,am2,am3,am4,am5,am6,am7,bl,i64,reduceIte,reduceCtorEq,Nat.reduceEqDiff,Nat.reduceLT,Nat.reduceLeDiff,Nat.reduceBEq,Nat.reduceAdd,fillA,splice,Nat.reduceMul,al0,al1,al2,al3,al4,al5,al6,al7,al8,al9,al10,al11,al12,al13,al14,al15,al16,al17,al18,al19,al20,al21,al22,al23,al24,al25,al26,al27,al28,al29,al30,al31,al32,al33,al34,amY, hz, h0, hw, hp]
    done
  · have hp : placeZ i n = i.tmod n := by unfold placeZ; rw [if_neg h0]
    simp only [s_gnomonlaw01_place, a_gnomonlaw01_place, am0,am1,am2,am3,am4,am5,am6,am7,bl,i64,reduceIte,reduceCtorEq,Nat.reduceEqDiff,Nat.reduceLT,Nat.reduceLeDiff,Nat.reduceBEq,Nat.reduceAdd,fillA,splice,Nat.reduceMul,al0,al1,al2,al3,al4,al5,al6,al7,al8,al9,al10,al11,al12,al13,al14,al15,al16,al17,al18,al19,al20,al21,al22,al23,al24,al25,al26,al27,al28,al29,al30,al31,al32,al33,al34,amY, hz, h0, hp]
    done
theorem el_ofP {l l2 : List Int} (h1 : ∀ x ∈ l, x < 2 ^ 63) (h2 : ∀ x ∈ l2, x < 2 ^ 63) (h : ∀ x, 0 ≤ x → (x ∈ l ↔ x ∈ l2)) : el (ofP l noP) = el (ofP l2 noP) := by
  refine rise_ext (el_lt (ofP_wd l noP h1 noP_wd)) (el_lt (ofP_wd l2 noP h2 noP_wd)) fun x => ?_
  rw [mem_ofP l noP h1 noP_wd, mem_ofP l2 noP h2 noP_wd, noP_el]
  constructor
  · rintro (h' | ⟨a, b⟩)
    · cases h'
    · exact .inr ⟨(h x b).1 a, b⟩
  · rintro (h' | ⟨a, b⟩)
    · cases h'
    · exact .inr ⟨(h x b).2 a, b⟩
theorem ofP_snoc (l : List Int) (x : Int) : ofP (l ++ [x]) noP = addP (ofP l noP) x := by simp [ofP, List.foldl_append]
theorem order_loop (h : TD CT) (hp : CT k_gnomonlaw01_place = some (.code s_gnomonlaw01_place)) (v : V) (l : List Int) (at' : Int) (hv : ∀ H, Rd H v (l.map iV)) (hw : Wide1 v) (hl : l.length ≤ 1000) (hx : ∀ x ∈ l, x < 2 ^ 63) :
    ∀ (rest pre ys : List Int) (H : Heap), l = pre ++ rest → SetP H 1 0 (ofP pre noP) → SetP H 3 2 (ofP ys noP) → (∀ x ∈ ys, x ∈ l) → ys.length = 2 * pre.length → (∀ t, t < pre.length → ∀ x, l[l.length - 1 - t]? = some x → x ∈ ys) → H.length = 4 →
    ∃ en H2 ys2, itW (evC (callW CT) itW 0 s_gnomonlaw01_BitsOrder_l0) [] 4 (frOf 64 [(0, v), (1, .s (.int .i64 at')), (5, .ref 1 0 0), (6, .ref 3 0 0), (7, .s (.int .i64 pre.length))]) H = some (.ext 0, frOf 64 ((0, v) :: (1, .s (.int .i64 at')) :: (5, .ref 1 0 0) :: (6, .ref 3 0 0) :: en), H2) ∧ (∃ a b, en = [(7, a), (17, b)]) ∧
      SetP H2 1 0 (ofP l noP) ∧ SetP H2 3 2 (ofP ys2 noP) ∧ (∀ x ∈ ys2, x ∈ l) ∧ (∀ x ∈ l, x ∈ ys2) ∧ ys2.length = 2 * l.length ∧ H2.length = 4 := by
  intro rest
  induction rest with
  | nil =>
    intro pre ys H hs h1 h2 h3 h4 h5 hH
    rw [List.append_nil] at hs
    subst hs
    rw [itW_step]
    simp only [a_gnomonlaw01_BitsOrder,s_gnomonlaw01_BitsOrder_l0_b, am0,am1,am2,am3,am4,am5,am6,am7,bl,i64,reduceIte,reduceCtorEq,Nat.reduceEqDiff,Nat.reduceLT,Nat.reduceLeDiff,Nat.reduceBEq,Nat.reduceAdd,fillA,splice,Nat.reduceMul,al0,al1,al2,al3,al4,al5,al6,al7,al8,al9,al10,al11,al12,al13,al14,al15,al16,al17,al18,al19,al20,al21,al22,al23,al24,al25,al26,al27,al28,al29,al30,al31,al32,al33,al34,amY, iV_len (hv _), Int.lt_irrefl, trim_same hH]
    refine ⟨_, _, ys, rfl, ⟨_, _, rfl⟩, h1, h2, h3, fun x hxl => ?_, h4, hH⟩
    obtain ⟨i, hi, rfl⟩ := List.getElem_of_mem hxl
    exact h5 (l.length - 1 - i) (by omega) _ (by rw [show l.length - 1 - (l.length - 1 - i) = i by omega]; exact List.getElem?_eq_getElem hi)
  | cons x rest ih =>
    intro pre ys H hs h1 h2 h3 h4 h5 hH
    have hlen : pre.length + (rest.length + 1) = l.length := by rw [hs]; simp
    have hlt : ((pre.length : Int) < (l.length : Int)) := by omega
    have hcx : l[pre.length]? = some x := by rw [hs]; simp
    have hxl : x ∈ l := List.mem_of_getElem? hcx
    have hpre : ∀ y ∈ pre, y < 2 ^ 63 := fun y hy => hx y (by rw [hs]; simp [hy])
    have hys : ∀ y ∈ ys, y < 2 ^ 63 := fun y hy => hx y (h3 y hy)
    have hk : l.length - 1 - pre.length < l.length := by omega
    obtain ⟨y, hy⟩ : ∃ y, l[l.length - 1 - pre.length]? = some y := ⟨_, List.getElem?_eq_getElem hk⟩
    have hyl : y ∈ l := List.mem_of_getElem? hy
    obtain ⟨m, hm⟩ : ∃ m : Nat, placeZ at' l.length = m := ⟨(placeZ at' l.length).toNat, by have := placeZ_ok (i := at') (n := l.length) (by omega); omega⟩
    have hml : m < l.length := by have := placeZ_ok (i := at') (n := l.length) (by omega); omega
    obtain ⟨z, hz⟩ : ∃ z, l[m]? = some z := ⟨_, List.getElem?_eq_getElem hml⟩
    have hzl : z ∈ l := List.mem_of_getElem? hz
    obtain ⟨a1, a2, a3⟩ := iV_at (hv []) hw hcx
    have hat := fun (i : Nat) (x : Int) (hi : l[i]? = some x) (H : Heap) => iV_at (hv H) hw hi
    have c1 := cnt_ofP pre noP hpre noP_wd
    have c2 := cnt_ofP ys noP hys noP_wd
    rw [noP_cnt] at c1 c2
    have hA1 := add_P h.toTB 0 h1 (Nat.zero_le _) (Nat.zero_le _) x (hx x hxl) (by omega)
    obtain ⟨H1, hH1⟩ : ∃ H1, putPH H 1 0 (addP (ofP pre noP) x) = H1 := ⟨_, rfl⟩
    have hs1 : SetP H1 1 0 (ofP (pre ++ [x]) noP) := by rw [ofP_snoc, ← hH1]; exact h1.putPH (h1.wd.addP (hx x hxl))
    have hs2 : SetP H1 3 2 (ofP ys noP) := h2.keep (by rw [← hH1]; exact putPH_other _ _ _ _ (by decide) (by decide)) (by rw [← hH1]; exact putPH_other _ _ _ _ (by decide) (by decide))
    have hA2 := add_P h.toTB 0 hs2 (Nat.zero_le _) (Nat.zero_le _) y (hx y hyl) (by omega)
    obtain ⟨H2, hH2⟩ : ∃ H2, putPH H1 3 2 (addP (ofP ys noP) y) = H2 := ⟨_, rfl⟩
    have ht1 : SetP H2 1 0 (ofP (pre ++ [x]) noP) := hs1.keep (by rw [← hH2]; exact putPH_other _ _ _ _ (by decide) (by decide)) (by rw [← hH2]; exact putPH_other _ _ _ _ (by decide) (by decide))
    have ht2 : SetP H2 3 2 (ofP (ys ++ [y]) noP) := by rw [ofP_snoc, ← hH2]; exact hs2.putPH (hs2.wd.addP (hx y hyl))
    have hys2 : ∀ w ∈ ys ++ [y], w < 2 ^ 63 := fun w hw => by
      rcases List.mem_append.1 hw with hw | hw
      · exact hys w hw
      · simp at hw; subst hw; exact hx w hyl
    have c3 := cnt_ofP (ys ++ [y]) noP hys2 noP_wd
    rw [noP_cnt, List.length_append, List.length_singleton] at c3
    have hA3 := add_P h.toTB 0 ht2 (Nat.zero_le _) (Nat.zero_le _) z (hx z hzl) (by omega)
    obtain ⟨H3, hH3⟩ : ∃ H3, putPH H2 3 2 (addP (ofP (ys ++ [y]) noP) z) = H3 := ⟨_, rfl⟩
    have hu1 : SetP H3 1 0 (ofP (pre ++ [x]) noP) := ht1.keep (by rw [← hH3]; exact putPH_other _ _ _ _ (by decide) (by decide)) (by rw [← hH3]; exact putPH_other _ _ _ _ (by decide) (by decide))
    have hu2 : SetP H3 3 2 (ofP (ys ++ [y] ++ [z]) noP) := by rw [ofP_snoc (ys ++ [y]), ← hH3]; exact ht2.putPH (ht2.wd.addP (hx z hzl))
    have hl3 : H3.length = 4 := by rw [← hH3, putPH_len, ← hH2, putPH_len, ← hH1, putPH_len]; exact hH
    rw [hH1] at hA1
    rw [hH2] at hA2
    rw [hH3] at hA3
    have hpl := fun base H => place_fun hp base H at' l.length (by omega) (by omega)
    rw [hm] at hpl
    have w1 : IntKind.i64.wrap ((l.length : Int) - 1) = ((l.length - 1 : Nat) : Int) := by rw [wrap_i64_id (by omega) (by omega)]; omega
    have w2 : IntKind.i64.wrap (((l.length - 1 : Nat) : Int) - (pre.length : Int)) = ((l.length - 1 - pre.length : Nat) : Int) := by rw [wrap_i64_id (by omega) (by omega)]; omega
    obtain ⟨p1, p2, p3⟩ := hat _ _ hcx H
    obtain ⟨q1, q2, q3⟩ := hat _ _ hy H1
    obtain ⟨r1, r2, r3⟩ := hat _ _ hz H2
    rw [itW_step]
    simp only [a_gnomonlaw01_BitsOrder,s_gnomonlaw01_BitsOrder_l0_b, am0,am1,am2,am3,am4,am5,am6,am7,bl,i64,reduceIte,reduceCtorEq,Nat.reduceEqDiff,Nat.reduceLT,Nat.reduceLeDiff,Nat.reduceBEq,Nat.reduceAdd,fillA,splice,Nat.reduceMul,al0,al1,al2,al3,al4,al5,al6,al7,al8,al9,al10,al11,al12,al13,al14,al15,al16,al17,al18,al19,al20,al21,al22,al23,al24,al25,al26,al27,al28,al29,al30,al31,al32,al33,al34,amY, iV_len (hv _), hlt, p2, p3, q2, q3, r2, r3, w1, w2, hpl, hA1, hA2, hA3, wrap_pos (n := pre.length) (by omega), trim_same hl3]
    have := ih (pre ++ [x]) (ys ++ [y] ++ [z]) H3 (by rw [hs]; simp) hu1 hu2 (fun w hw => by
      simp only [List.mem_append, List.mem_singleton] at hw
      rcases hw with (hw | rfl) | rfl
      · exact h3 w hw
      · exact hyl
      · exact hzl) (by simp; omega) (fun t ht w hw => by
      rw [List.length_append, List.length_singleton] at ht
      simp only [List.mem_append, List.mem_singleton]
      by_cases htp : t < pre.length
      · exact .inl (.inl (h5 t htp w hw))
      · have : t = pre.length := by omega
        subst this
        rw [hy] at hw
        cases hw
        exact .inl (.inr rfl)) hl3
    rw [List.length_append, List.length_singleton] at this
    exact this
end
end Go.Proofs.YtccallbknpbggaaDoor
set_option maxRecDepth 100000
namespace Go.Proofs.YtccallbknpbggaaDoor
open Go.AM
section
variable {CT : Nat → Option CFun}
theorem order_law (h : TD CT) (hp : CT k_gnomonlaw01_place = some (.code s_gnomonlaw01_place)) (hF : CT k_gnomonlaw01_BitsOrder = some (.code s_gnomonlaw01_BitsOrder)) (hS : CT k_gnomonref01_Same = some (.code s_gnomonref01_Same)) (hwk : ∀ base H, callW CT (.fn k_gnomonlaw01_wakes [] []) [] base H = some (.s (.bool true), H)) (v : V) (l : List Int) (at' : Int) (hv : ∀ H, Rd H v (l.map iV)) (hw : Wide1 v) (hll : l.length < 2 ^ 63) (hx : ∀ x ∈ l, x < 2 ^ 63) :
    ∃ H', callW CT (.fn k_gnomonlaw01_BitsOrder [] []) [v, .s (.int .i64 at')] 0 [] = some (.s (.bool true), H') := by
  by_cases hl : l.length > 1000
  · have hg : decide ((l.length : Int) > 1000) = true := by simp; omega
    refine ⟨[], callW_fn (c := s_gnomonlaw01_BitsOrder) hF (by simp [s_gnomonlaw01_BitsOrder]) ?_⟩
    simp only [s_gnomonlaw01_BitsOrder, a_gnomonlaw01_BitsOrder,s_gnomonlaw01_BitsOrder_l0_b, am0,am1,am2,am3,am4,am5,am6,am7,bl,i64,reduceIte,reduceCtorEq,Nat.reduceEqDiff,Nat.reduceLT,Nat.reduceLeDiff,Nat.reduceBEq,Nat.reduceAdd,fillA,splice,Nat.reduceMul,al0,al1,al2,al3,al4,al5,al6,al7,al8,al9,al10,al11,al12,al13,al14,al15,al16,al17,al18,al19,al20,al21,al22,al23,al24,al25,al26,al27,al28,al29,al30,al31,al32,al33,al34,amY, iV_len (hv _), hg, hwk]
    done
  · have hg : decide ((l.length : Int) > 1000) = false := by simp; omega
    obtain ⟨A, a1, a2, a3, a4⟩ := of_P h.toTB 0 (H := []) (v := nilS) (l := []) (Rd.nil _) trivial (by decide) (fun x hx => by cases hx) (Nat.zero_le _)
    simp only [List.length_nil, Nat.zero_add] at a1 a2 a4
    obtain ⟨B, b1, b2, b3, b4⟩ := of_P h.toTB 0 (H := A) (v := nilS) (l := []) (Rd.nil _) trivial (by decide) (fun x hx => by cases hx) (Nat.zero_le _)
    rw [a4] at b1 b2 b4
    simp only [Nat.reduceAdd] at b1 b2 b4
    have b5 : SetP B 1 0 (ofP [] noP) := (b3.d []).setP a2 ⟨by omega, by omega⟩ ⟨by simp, by simp⟩
    obtain ⟨en, C, ys, c1, ⟨a', b', rfl⟩, c2, c3, c4, c5, c6, c7⟩ := order_loop h hp v l at' hv hw (by omega) hx l [] [] B rfl b5 b2 (fun x hx => by cases hx) rfl (fun t ht => by simp at ht) b4
    have hys : ∀ y ∈ ys, y < 2 ^ 63 := fun y hy => hx y (c4 y hy)
    have hel : el (ofP l noP) = el (ofP ys noP) := el_ofP hx hys fun x _ => ⟨fun hh => c5 x hh, fun hh => c4 x hh⟩
    have cl := cnt_ofP l noP hx noP_wd
    have cy := cnt_ofP ys noP hys noP_wd
    rw [noP_cnt] at cl cy
    obtain ⟨r1, D1, d1, d2, d3⟩ := same_P h.toTC 0 c2 (by omega) (AtV.set h.toTB c3) (LenV.set h.toTB c3) (Nat.zero_le _)
    have hr1 : r1 = true := d2.2 ((same_iff c2.wd c3.wd).2 hel)
    subst hr1
    have e2 : SetP D1 1 0 (ofP l noP) := d3.setP c2 ⟨by omega, by omega⟩ ⟨by simp, by simp⟩
    have e3 : SetP D1 3 2 (ofP ys noP) := d3.setP c3 ⟨by omega, by omega⟩ ⟨by simp, by simp⟩
    obtain ⟨v1, D2, f1, f2, f3⟩ := list_P h 0 e2 (by omega) (Nat.zero_le _)
    have g3 : SetP D2 3 2 (ofP ys noP) := f3.setP e3 (SetW.lt e3) ⟨by simp, by simp⟩
    obtain ⟨v2, D3, g4, g5, g6⟩ := list_P h 0 g3 (by omega) (Nat.zero_le _)
    have f2' := f2.ext (g6.ext)
    have hcmp := same_fun hS 0 D3 v1 v2 (el (ofP l noP)) (el (ofP ys noP)) f2'.rd f2'.wide g5.rd g5.wide (by rw [el_len]; omega)
    rw [hel, BEq.rfl] at hcmp
    obtain ⟨D4, k1, k2, k3, k4⟩ := of_P h.toTB 0 (H := D3) (v := v) (l := l) (hv _) hw (by omega) hx (Nat.zero_le _)
    have kk : KeepD D1.length [] D1 D3 := f3.trans g6 f3.1
    have m2 : SetP D4 1 0 (ofP l noP) := (kk.trans (k3.d []) kk.1).setP e2 (SetW.lt e2) ⟨by simp, by simp⟩
    obtain ⟨r5, D5, n1, n2, n3⟩ := same_P h.toTC 0 m2 (by omega) (AtV.set h.toTB k2) (LenV.set h.toTB k2) (Nat.zero_le _)
    have hr5 : r5 = true := n2.2 ((same_iff m2.wd k2.wd).2 rfl)
    subst hr5
    refine ⟨D5, callW_fn (c := s_gnomonlaw01_BitsOrder) hF (by simp [s_gnomonlaw01_BitsOrder]) ?_⟩
    rw [show ((([] : List Int).length : Nat) : Int) = 0 from rfl] at c1
    simp only [nilS] at a1 b1
    simp only [s_gnomonlaw01_BitsOrder, a_gnomonlaw01_BitsOrder,s_gnomonlaw01_BitsOrder_l0_b, am0,am1,am2,am3,am4,am5,am6,am7,bl,i64,reduceIte,reduceCtorEq,Nat.reduceEqDiff,Nat.reduceLT,Nat.reduceLeDiff,Nat.reduceBEq,Nat.reduceAdd,fillA,splice,Nat.reduceMul,al0,al1,al2,al3,al4,al5,al6,al7,al8,al9,al10,al11,al12,al13,al14,al15,al16,al17,al18,al19,al20,al21,al22,al23,al24,al25,al26,al27,al28,al29,al30,al31,al32,al33,al34,amY, iV_len (hv _), hg, hwk, a1, b1, b4, c1, d1, f1, g4, hcmp, k1, n1]
    done
end
end Go.Proofs.YtccallbknpbggaaDoor
