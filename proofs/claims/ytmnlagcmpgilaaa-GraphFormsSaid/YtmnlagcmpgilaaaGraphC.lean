/- Functions of the given program, as the machine's code. -/
import Derived.Test.YtmnlagcmpgilaaaAmK
import Derived.Test.YtmnlagcmpgilaaaProg
import Derived.KernelRfl
set_option linter.all false
set_option maxRecDepth 100000
namespace Go.Proofs.Ytmnlagcmpgilaaa
open Go.AM

/- 10 gnomon/gnomonlaw07.wakes -/
def c_gnomonlaw07_wakes : ACFun := { ntmps := 23, results := [(.tmp 0)], body :=
  (.seq (.region [
    ⟨some 0, (.move (.c (.s (.bool false)))), none⟩] [] [])
  (.seq (.region [
    ⟨some 1, (.call (.c (.fn 25 [] [])) []), none⟩,
    ⟨some 2, (.call (.c (.fn 23 [] [])) [(.t 1), (.c (.s (.int .i64 0)))]), none⟩,
    ⟨some 3, (.buildSl 1 4 [(.s (.int .i64 0)), (.s (.int .i64 0)), (.s (.int .i64 0)), (.s (.int .i64 0))] [(0, (.c (.s (.int .i64 0)))), (1, (.c (.s (.int .i64 2)))), (2, (.c (.s (.int .i64 1)))), (3, (.c (.s (.int .i64 3))))]), none⟩,
    ⟨some 4, (.call (.c (.fn 22 [] [])) [(.t 2), (.t 3)]), none⟩,
    ⟨some 5, (.move (.t 4)), none⟩,
    ⟨some 6, (.call (.c (.fn 25 [] [])) []), some (5, true)⟩,
    ⟨some 7, (.call (.c (.fn 13 [] [])) [(.t 6)]), some (5, true)⟩,
    ⟨some 8, (.buildSl 1 2 [(.s (.int .i64 0)), (.s (.int .i64 0))] [(0, (.c (.s (.int .i64 0)))), (1, (.c (.s (.int .i64 3))))]), some (5, true)⟩,
    ⟨some 9, (.buildSl 1 1 [(.s (.int .i64 0))] [(0, (.c (.s (.int .i64 0))))]), some (5, true)⟩,
    ⟨some 10, (.buildSl 1 2 [(.s (.int .i64 0)), (.s (.int .i64 0))] [(0, (.c (.s (.int .i64 1)))), (1, (.c (.s (.int .i64 2))))]), some (5, true)⟩,
    ⟨some 11, (.buildSl 1 4 [(.s (.slice none 0 0)), (.s (.slice none 0 0)), (.s (.slice none 0 0)), (.s (.slice none 0 0))] [(0, (.c (.s (.slice none 0 0)))), (1, (.t 8)), (2, (.t 9)), (3, (.t 10))]), some (5, true)⟩,
    ⟨some 12, (.call (.c (.fn 14 [] [])) [(.t 7), (.t 11)]), some (5, true)⟩,
    ⟨some 13, (.pick (.t 5) (.t 12) (.c (.s (.bool false)))), none⟩,
    ⟨some 14, (.move (.t 13)), none⟩,
    ⟨some 15, (.call (.c (.fn 25 [] [])) []), some (14, true)⟩,
    ⟨some 16, (.call (.c (.fn 20 [] [])) [(.t 15), (.c (.s (.int .i64 2))), (.c (.s (.int .i64 2)))]), some (14, true)⟩,
    ⟨some 17, (.pick (.t 14) (.t 16) (.c (.s (.bool false)))), none⟩,
    ⟨some 18, (.move (.t 17)), none⟩,
    ⟨some 19, (.call (.c (.fn 25 [] [])) []), some (18, true)⟩,
    ⟨some 20, (.call (.c (.fn 20 [] [])) [(.t 19), (.c (.s (.int .i64 3))), (.c (.s (.int .i64 0)))]), some (18, true)⟩,
    ⟨some 21, (.un .not (.t 20)), some (18, true)⟩,
    ⟨some 22, (.pick (.t 18) (.t 21) (.c (.s (.bool false)))), none⟩,
    ⟨some 0, (.move (.t 22)), none⟩] [] [])
  .ret)) }
/- 12 gnomon/graph.Norm -/
def c_graph_Norm_l0 : ACode :=
  (.seq (.region [
    ⟨some 13, (.bin .lss (.t 12) (.t 11)), none⟩] [] [])
  (.seq (.cond (.t 13)
    .skip
    (.exit 0))
  (.seq (.block 1
    (.seq (.region [
      ⟨some 14, (.move (.t 12)), none⟩,
      ⟨some 15, (.indexAddr 1 (.t 10) (.t 12)), none⟩,
      ⟨some 16, (.load false 1 (.t 15)), none⟩,
      ⟨some 4, (.move (.t 14)), none⟩,
      ⟨some 5, (.move (.t 16)), none⟩] [] [])
    (.seq (.region [
      ⟨some 17, (.move (.t 5)), none⟩,
      ⟨some 18, (.call (.c (.fn 27 [] [])) [(.t 17)]), none⟩,
      ⟨some 19, (.mkFn 28 [] [(.t 1)]), none⟩,
      ⟨some 20, (.call (.c (.fn 26 [] [])) [(.t 18), (.t 19)]), none⟩,
      ⟨some 6, (.move (.t 20)), none⟩] [] [])
    (.seq (.region [
      ⟨some 21, (.move (.t 6)), none⟩,
      ⟨some 22, (.call (.c (.fn 29 [] [])) [(.t 21)]), none⟩] [] [])
    (.region [
      ⟨some 23, (.move (.t 3)), none⟩,
      ⟨some 24, (.move (.t 4)), none⟩,
      ⟨some 25, (.move (.t 6)), none⟩,
      ⟨some 26, (.call (.c (.fn 30 [] [])) [(.t 25)]), none⟩,
      ⟨some 27, (.indexAddr 1 (.t 23) (.t 24)), none⟩,
      ⟨none, (.store 1 (.t 27) (.t 26)), none⟩] [] [])))))
  (.region [
    ⟨some 28, (.bin .add (.t 12) (.c (.s (.int .i64 1)))), none⟩,
    ⟨some 12, (.move (.t 28)), none⟩] [] []))))
def c_graph_Norm_k0 : List Nat := [13, 14, 15, 16, 4, 5, 17, 18, 19, 20, 6, 21, 22, 23, 24, 25, 26, 27, 28]
def c_graph_Norm : ACFun := { ntmps := 30, results := [(.tmp 2)], body :=
  (.seq (.region [
    ⟨some 1, (.box (.t 0)), none⟩,
    ⟨some 2, (.move (.c (.s (.slice none 0 0)))), none⟩] [] [])
  (.seq (.region [
    ⟨some 7, (.load false 1 (.t 1)), none⟩,
    ⟨some 8, (.lenS .s (.t 7)), none⟩,
    ⟨some 9, (.mkSl [(.s (.slice none 0 0))] 1 24 (.t 8) (.t 8)), none⟩,
    ⟨some 3, (.move (.t 9)), none⟩] [] [])
  (.seq (.seq (.region [
    ⟨some 10, (.load false 1 (.t 1)), none⟩,
    ⟨some 11, (.lenS .s (.t 10)), none⟩,
    ⟨some 12, (.move (.c (.s (.int .i64 0)))), none⟩] [] [])
  (.block 0
    (.loop c_graph_Norm_k0 c_graph_Norm_l0)))
  (.seq (.region [
    ⟨some 29, (.move (.t 3)), none⟩,
    ⟨some 2, (.move (.t 29)), none⟩] [] [])
  .ret)))) }
/- 13 gnomon/graph.Back -/
def c_graph_Back_l0 : ACode :=
  (.seq (.region [
    ⟨some 22, (.bin .lss (.t 21) (.t 20)), none⟩] [] [])
  (.seq (.cond (.t 22)
    .skip
    (.exit 2))
  (.seq (.block 3
    (.seq (.region [
      ⟨some 23, (.indexAddr 1 (.t 19) (.t 21)), none⟩,
      ⟨some 24, (.load false 1 (.t 23)), none⟩,
      ⟨some 7, (.move (.t 24)), none⟩] [] [])
    (.region [
      ⟨some 25, (.move (.t 3)), none⟩,
      ⟨some 26, (.move (.t 7)), none⟩,
      ⟨some 27, (.move (.t 3)), none⟩,
      ⟨some 28, (.move (.t 7)), none⟩,
      ⟨some 29, (.indexAddr 1 (.t 27) (.t 28)), none⟩,
      ⟨some 30, (.load false 1 (.t 29)), none⟩,
      ⟨some 31, (.move (.t 4)), none⟩,
      ⟨some 32, (.buildSl 1 1 [(.s (.int .i64 0))] [(0, (.t 31))]), none⟩,
      ⟨some 33, (.append 1 8 (.t 30) (.t 32)), none⟩,
      ⟨some 34, (.indexAddr 1 (.t 25) (.t 26)), none⟩,
      ⟨none, (.store 1 (.t 34) (.t 33)), none⟩] [] [])))
  (.region [
    ⟨some 35, (.bin .add (.t 21) (.c (.s (.int .i64 1)))), none⟩,
    ⟨some 21, (.move (.t 35)), none⟩] [] []))))
def c_graph_Back_k0 : List Nat := [22, 23, 24, 7, 25, 26, 27, 28, 29, 30, 31, 32, 33, 34, 35]
def c_graph_Back_l1 : ACode :=
  (.seq (.region [
    ⟨some 15, (.bin .lss (.t 14) (.t 13)), none⟩] [] [])
  (.seq (.cond (.t 15)
    .skip
    (.exit 0))
  (.seq (.block 1
    (.seq (.region [
      ⟨some 16, (.move (.t 14)), none⟩,
      ⟨some 17, (.indexAddr 1 (.t 12) (.t 14)), none⟩,
      ⟨some 18, (.load false 1 (.t 17)), none⟩,
      ⟨some 4, (.move (.t 16)), none⟩,
      ⟨some 5, (.move (.t 18)), none⟩] [] [])
    (.seq (.region [
      ⟨some 19, (.move (.t 5)), none⟩,
      ⟨some 20, (.lenS .s (.t 19)), none⟩,
      ⟨some 21, (.move (.c (.s (.int .i64 0)))), none⟩] [] [])
    (.block 2
      (.loop c_graph_Back_k0 c_graph_Back_l0)))))
  (.region [
    ⟨some 36, (.bin .add (.t 14) (.c (.s (.int .i64 1)))), none⟩,
    ⟨some 14, (.move (.t 36)), none⟩] [] []))))
def c_graph_Back_k1 : List Nat := [15, 16, 17, 18, 4, 5, 19, 20, 21, 22, 23, 24, 7, 25, 26, 27, 28, 29, 30, 31, 32, 33, 34, 35, 36]
def c_graph_Back : ACFun := { ntmps := 38, results := [(.tmp 2)], body :=
  (.seq (.region [
    ⟨some 2, (.move (.c (.s (.slice none 0 0)))), none⟩] [] [])
  (.seq (.region [
    ⟨some 8, (.move (.t 0)), none⟩,
    ⟨some 9, (.lenS .s (.t 8)), none⟩,
    ⟨some 10, (.mkSl [(.s (.slice none 0 0))] 1 24 (.t 9) (.t 9)), none⟩,
    ⟨some 3, (.move (.t 10)), none⟩] [] [])
  (.seq (.seq (.region [
    ⟨some 11, (.move (.t 0)), none⟩,
    ⟨some 12, (.call (.c (.fn 12 [] [])) [(.t 11)]), none⟩,
    ⟨some 13, (.lenS .s (.t 12)), none⟩,
    ⟨some 14, (.move (.c (.s (.int .i64 0)))), none⟩] [] [])
  (.block 0
    (.loop c_graph_Back_k1 c_graph_Back_l1)))
  (.seq (.region [
    ⟨some 37, (.move (.t 3)), none⟩,
    ⟨some 2, (.move (.t 37)), none⟩] [] [])
  .ret)))) }
/- 14 gnomon/gnomonref07.Same -/
def c_gnomonref07_Same_l0 : ACode :=
  (.seq (.seq (.region [
    ⟨some 11, (.move (.t 5)), none⟩,
    ⟨some 12, (.move (.t 0)), none⟩,
    ⟨some 13, (.lenS .s (.t 12)), none⟩,
    ⟨some 14, (.bin .lss (.t 11) (.t 13)), none⟩] [] [])
  (.cond (.t 14)
    .skip
    (.exit 0)))
  (.seq (.block 1
    (.seq (.region [
      ⟨some 17, (.move (.t 0)), none⟩,
      ⟨some 18, (.move (.t 5)), none⟩,
      ⟨some 19, (.indexAddr 1 (.t 17) (.t 18)), none⟩,
      ⟨some 20, (.load false 1 (.t 19)), none⟩,
      ⟨some 21, (.move (.t 1)), none⟩,
      ⟨some 22, (.move (.t 5)), none⟩,
      ⟨some 23, (.indexAddr 1 (.t 21) (.t 22)), none⟩,
      ⟨some 24, (.load false 1 (.t 23)), none⟩,
      ⟨some 25, (.call (.c (.fn 22 [] [])) [(.t 20), (.t 24)]), none⟩,
      ⟨some 26, (.un .not (.t 25)), none⟩] [] [])
    (.cond (.t 26)
      (.seq (.region [
        ⟨some 4, (.move (.c (.s (.bool false)))), none⟩] [] [])
      .ret)
      .skip)))
  (.region [
    ⟨some 15, (.move (.t 5)), none⟩,
    ⟨some 16, (.bin .add (.t 15) (.c (.s (.int .i64 1)))), none⟩,
    ⟨some 5, (.move (.t 16)), none⟩] [] [])))
def c_gnomonref07_Same_k0 : List Nat := [11, 12, 13, 14, 17, 18, 19, 20, 21, 22, 23, 24, 25, 26, 15, 16]
def c_gnomonref07_Same : ACFun := { ntmps := 27, results := [(.tmp 4)], body :=
  (.seq (.region [
    ⟨some 4, (.move (.c (.s (.bool false)))), none⟩] [] [])
  (.seq (.seq (.region [
    ⟨some 6, (.move (.t 0)), none⟩,
    ⟨some 7, (.lenS .s (.t 6)), none⟩,
    ⟨some 8, (.move (.t 1)), none⟩,
    ⟨some 9, (.lenS .s (.t 8)), none⟩,
    ⟨some 10, (.bin .neq (.t 7) (.t 9)), none⟩] [] [])
  (.cond (.t 10)
    (.seq (.region [
      ⟨some 4, (.move (.c (.s (.bool false)))), none⟩] [] [])
    .ret)
    .skip))
  (.seq (.seq (.region [
    ⟨some 5, (.move (.c (.s (.int .i64 0)))), none⟩] [] [])
  (.block 0
    (.loop c_gnomonref07_Same_k0 c_gnomonref07_Same_l0)))
  (.seq (.region [
    ⟨some 4, (.move (.c (.s (.bool true)))), none⟩] [] [])
  .ret)))) }
/- 18 gnomon/graph.Reach -/
def c_graph_Reach_l0 : ACode :=
  (.seq (.region [
    ⟨some 20, (.bin .lss (.t 19) (.t 18)), none⟩] [] [])
  (.seq (.cond (.t 20)
    .skip
    (.exit 0))
  (.seq (.block 1
    (.seq (.region [
      ⟨some 21, (.indexAddr 1 (.t 17) (.t 19)), none⟩,
      ⟨some 22, (.load false 1 (.t 21)), none⟩,
      ⟨some 9, (.move (.t 22)), none⟩] [] [])
    (.region [
      ⟨some 23, (.move (.t 7)), none⟩,
      ⟨some 24, (.move (.t 9)), none⟩,
      ⟨some 25, (.call (.t 23) [(.t 24)]), none⟩] [] [])))
  (.region [
    ⟨some 26, (.bin .add (.t 19) (.c (.s (.int .i64 1)))), none⟩,
    ⟨some 19, (.move (.t 26)), none⟩] [] []))))
def c_graph_Reach_k0 : List Nat := [20, 21, 22, 9, 23, 24, 25, 26]
def c_graph_Reach_l1 : ACode :=
  (.seq (.region [
    ⟨some 47, (.bin .lss (.t 46) (.t 45)), none⟩] [] [])
  (.seq (.cond (.t 47)
    .skip
    (.exit 4))
  (.seq (.block 5
    (.seq (.region [
      ⟨some 48, (.indexAddr 1 (.t 44) (.t 46)), none⟩,
      ⟨some 49, (.load false 1 (.t 48)), none⟩,
      ⟨some 12, (.move (.t 49)), none⟩] [] [])
    (.region [
      ⟨some 50, (.move (.t 7)), none⟩,
      ⟨some 51, (.move (.t 12)), none⟩,
      ⟨some 52, (.call (.t 50) [(.t 51)]), none⟩] [] [])))
  (.region [
    ⟨some 53, (.bin .add (.t 46) (.c (.s (.int .i64 1)))), none⟩,
    ⟨some 46, (.move (.t 53)), none⟩] [] []))))
def c_graph_Reach_k1 : List Nat := [47, 48, 49, 12, 50, 51, 52, 53]
def c_graph_Reach_l2 : ACode :=
  (.seq (.seq (.region [
    ⟨some 27, (.load false 1 (.t 6)), none⟩,
    ⟨some 28, (.lenS .s (.t 27)), none⟩,
    ⟨some 29, (.bin .gtr (.t 28) (.c (.s (.int .i64 0)))), none⟩] [] [])
  (.cond (.t 29)
    .skip
    (.exit 2)))
  (.block 3
    (.seq (.region [
      ⟨some 30, (.load false 1 (.t 6)), none⟩,
      ⟨some 31, (.load false 1 (.t 6)), none⟩,
      ⟨some 32, (.lenS .s (.t 31)), none⟩,
      ⟨some 33, (.bin .sub (.t 32) (.c (.s (.int .i64 1)))), none⟩,
      ⟨some 34, (.indexAddr 1 (.t 30) (.t 33)), none⟩,
      ⟨some 35, (.load false 1 (.t 34)), none⟩,
      ⟨some 10, (.move (.t 35)), none⟩] [] [])
    (.seq (.region [
      ⟨some 36, (.load false 1 (.t 6)), none⟩,
      ⟨some 37, (.load false 1 (.t 6)), none⟩,
      ⟨some 38, (.lenS .s (.t 37)), none⟩,
      ⟨some 39, (.bin .sub (.t 38) (.c (.s (.int .i64 1)))), none⟩,
      ⟨some 40, (.subSl 1 (.t 36) none (some (.t 39)) none), none⟩,
      ⟨none, (.store 1 (.t 6) (.t 40)), none⟩] [] [])
    (.seq (.region [
      ⟨some 41, (.load false 1 (.t 2)), none⟩,
      ⟨some 42, (.move (.t 10)), none⟩,
      ⟨some 43, (.indexAddr 1 (.t 41) (.t 42)), none⟩,
      ⟨some 44, (.load false 1 (.t 43)), none⟩,
      ⟨some 45, (.lenS .s (.t 44)), none⟩,
      ⟨some 46, (.move (.c (.s (.int .i64 0)))), none⟩] [] [])
    (.block 4
      (.loop c_graph_Reach_k1 c_graph_Reach_l1)))))))
def c_graph_Reach_k2 : List Nat := [27, 28, 29, 30, 31, 32, 33, 34, 35, 10, 36, 37, 38, 39, 40, 41, 42, 43, 44, 45, 46, 47, 48, 49, 12, 50, 51, 52, 53]
def c_graph_Reach : ACFun := { ntmps := 55, results := [(.tmp 4)], body :=
  (.seq (.region [
    ⟨some 2, (.box (.t 0)), none⟩,
    ⟨some 4, (.move (.c (.s (.slice none 0 0)))), none⟩] [] [])
  (.seq (.region [
    ⟨some 13, (.load false 1 (.t 2)), none⟩,
    ⟨some 14, (.lenS .s (.t 13)), none⟩,
    ⟨some 15, (.mkSl [(.s (.bool false))] 1 1 (.t 14) (.t 14)), none⟩,
    ⟨some 5, (.alloc [(.s (.slice none 0 0))]), none⟩,
    ⟨none, (.store 1 (.t 5) (.t 15)), none⟩] [] [])
  (.seq (.region [
    ⟨some 6, (.alloc [(.s (.slice none 0 0))]), none⟩] [] [])
  (.seq (.region [
    ⟨some 16, (.mkFn 32 [] [(.t 2), (.t 5), (.t 6)]), none⟩,
    ⟨some 7, (.move (.t 16)), none⟩] [] [])
  (.seq (.seq (.region [
    ⟨some 17, (.move (.t 1)), none⟩,
    ⟨some 18, (.lenS .s (.t 17)), none⟩,
    ⟨some 19, (.move (.c (.s (.int .i64 0)))), none⟩] [] [])
  (.block 0
    (.loop c_graph_Reach_k0 c_graph_Reach_l0)))
  (.seq (.block 2
    (.loop c_graph_Reach_k2 c_graph_Reach_l2))
  (.seq (.region [
    ⟨some 54, (.load false 1 (.t 5)), none⟩,
    ⟨some 4, (.move (.t 54)), none⟩] [] [])
  .ret))))))) }
/- 20 gnomon/graph.Leads -/
def c_graph_Leads : ACFun := { ntmps := 24, results := [(.tmp 6)], body :=
  (.seq (.region [
    ⟨some 6, (.move (.c (.s (.bool false)))), none⟩] [] [])
  (.seq (.region [
    ⟨some 7, (.move (.t 2)), none⟩,
    ⟨some 8, (.bin .geq (.t 7) (.c (.s (.int .i64 0)))), none⟩,
    ⟨some 9, (.move (.t 8)), none⟩,
    ⟨some 10, (.move (.t 2)), some (9, true)⟩,
    ⟨some 11, (.move (.t 0)), some (9, true)⟩,
    ⟨some 12, (.lenS .s (.t 11)), some (9, true)⟩,
    ⟨some 13, (.bin .lss (.t 10) (.t 12)), some (9, true)⟩,
    ⟨some 14, (.pick (.t 9) (.t 13) (.c (.s (.bool false)))), none⟩,
    ⟨some 15, (.move (.t 14)), none⟩,
    ⟨some 16, (.move (.t 0)), some (15, true)⟩,
    ⟨some 17, (.move (.t 1)), some (15, true)⟩,
    ⟨some 18, (.buildSl 1 1 [(.s (.int .i64 0))] [(0, (.t 17))]), some (15, true)⟩,
    ⟨some 19, (.call (.c (.fn 18 [] [])) [(.t 16), (.t 18)]), some (15, true)⟩,
    ⟨some 20, (.move (.t 2)), some (15, true)⟩,
    ⟨some 21, (.indexAddr 1 (.t 19) (.t 20)), some (15, true)⟩,
    ⟨some 22, (.load false 1 (.t 21)), some (15, true)⟩,
    ⟨some 23, (.pick (.t 15) (.t 22) (.c (.s (.bool false)))), none⟩,
    ⟨some 6, (.move (.t 23)), none⟩] [] [])
  .ret)) }
/- 22 gnomon/gnomonref01.Same -/
def c_gnomonref01_Same_l0 : ACode :=
  (.seq (.seq (.region [
    ⟨some 11, (.move (.t 5)), none⟩,
    ⟨some 12, (.move (.t 0)), none⟩,
    ⟨some 13, (.lenS .s (.t 12)), none⟩,
    ⟨some 14, (.bin .lss (.t 11) (.t 13)), none⟩] [] [])
  (.cond (.t 14)
    .skip
    (.exit 0)))
  (.seq (.block 1
    (.seq (.region [
      ⟨some 17, (.move (.t 0)), none⟩,
      ⟨some 18, (.move (.t 5)), none⟩,
      ⟨some 19, (.indexAddr 1 (.t 17) (.t 18)), none⟩,
      ⟨some 20, (.load false 1 (.t 19)), none⟩,
      ⟨some 21, (.move (.t 1)), none⟩,
      ⟨some 22, (.move (.t 5)), none⟩,
      ⟨some 23, (.indexAddr 1 (.t 21) (.t 22)), none⟩,
      ⟨some 24, (.load false 1 (.t 23)), none⟩,
      ⟨some 25, (.bin .neq (.t 20) (.t 24)), none⟩] [] [])
    (.cond (.t 25)
      (.seq (.region [
        ⟨some 4, (.move (.c (.s (.bool false)))), none⟩] [] [])
      .ret)
      .skip)))
  (.region [
    ⟨some 15, (.move (.t 5)), none⟩,
    ⟨some 16, (.bin .add (.t 15) (.c (.s (.int .i64 1)))), none⟩,
    ⟨some 5, (.move (.t 16)), none⟩] [] [])))
def c_gnomonref01_Same_k0 : List Nat := [11, 12, 13, 14, 17, 18, 19, 20, 21, 22, 23, 24, 25, 15, 16]
def c_gnomonref01_Same : ACFun := { ntmps := 26, results := [(.tmp 4)], body :=
  (.seq (.region [
    ⟨some 4, (.move (.c (.s (.bool false)))), none⟩] [] [])
  (.seq (.seq (.region [
    ⟨some 6, (.move (.t 0)), none⟩,
    ⟨some 7, (.lenS .s (.t 6)), none⟩,
    ⟨some 8, (.move (.t 1)), none⟩,
    ⟨some 9, (.lenS .s (.t 8)), none⟩,
    ⟨some 10, (.bin .neq (.t 7) (.t 9)), none⟩] [] [])
  (.cond (.t 10)
    (.seq (.region [
      ⟨some 4, (.move (.c (.s (.bool false)))), none⟩] [] [])
    .ret)
    .skip))
  (.seq (.seq (.region [
    ⟨some 5, (.move (.c (.s (.int .i64 0)))), none⟩] [] [])
  (.block 0
    (.loop c_gnomonref01_Same_k0 c_gnomonref01_Same_l0)))
  (.seq (.region [
    ⟨some 4, (.move (.c (.s (.bool true)))), none⟩] [] [])
  .ret)))) }
/- 23 gnomon/graph.Post -/
def c_graph_Post_l0 : ACode :=
  (.seq (.seq (.region [
    ⟨some 29, (.move (.t 7)), none⟩,
    ⟨some 30, (.lenS .s (.t 29)), none⟩,
    ⟨some 31, (.bin .gtr (.t 30) (.c (.s (.int .i64 0)))), none⟩] [] [])
  (.cond (.t 31)
    .skip
    (.exit 0)))
  (.block 1
    (.seq (.region [
      ⟨some 32, (.move (.t 7)), none⟩,
      ⟨some 33, (.move (.t 7)), none⟩,
      ⟨some 34, (.lenS .s (.t 33)), none⟩,
      ⟨some 35, (.bin .sub (.t 34) (.c (.s (.int .i64 1)))), none⟩,
      ⟨some 36, (.indexAddr 1 (.t 32) (.t 35)), none⟩,
      ⟨some 37, (.load false 1 (.t 36)), none⟩,
      ⟨some 9, (.move (.t 37)), none⟩] [] [])
    (.seq (.region [
      ⟨some 38, (.move (.t 5)), none⟩,
      ⟨some 39, (.move (.t 9)), none⟩,
      ⟨some 40, (.indexAddr 1 (.t 38) (.t 39)), none⟩,
      ⟨some 41, (.load false 1 (.t 40)), none⟩,
      ⟨some 42, (.mkFn 34 [] [(.t 6)]), none⟩,
      ⟨some 43, (.call (.c (.fn 33 [] [])) [(.t 41), (.t 42)]), none⟩,
      ⟨some 10, (.move (.t 43)), none⟩] [] [])
    (.seq (.seq (.region [
      ⟨some 44, (.move (.t 10)), none⟩,
      ⟨some 45, (.bin .lss (.t 44) (.c (.s (.int .i64 0)))), none⟩] [] [])
    (.cond (.t 45)
      (.seq (.region [
        ⟨some 46, (.move (.t 8)), none⟩,
        ⟨some 47, (.move (.t 9)), none⟩,
        ⟨some 48, (.buildSl 1 1 [(.s (.int .i64 0))] [(0, (.t 47))]), none⟩,
        ⟨some 49, (.append 1 8 (.t 46) (.t 48)), none⟩,
        ⟨some 8, (.move (.t 49)), none⟩] [] [])
      (.seq (.region [
        ⟨some 50, (.move (.t 7)), none⟩,
        ⟨some 51, (.move (.t 7)), none⟩,
        ⟨some 52, (.lenS .s (.t 51)), none⟩,
        ⟨some 53, (.bin .sub (.t 52) (.c (.s (.int .i64 1)))), none⟩,
        ⟨some 54, (.subSl 1 (.t 50) none (some (.t 53)) none), none⟩,
        ⟨some 7, (.move (.t 54)), none⟩] [] [])
      (.exit 1)))
      .skip))
    (.seq (.region [
      ⟨some 55, (.load false 1 (.t 6)), none⟩,
      ⟨some 56, (.move (.t 5)), none⟩,
      ⟨some 57, (.move (.t 9)), none⟩,
      ⟨some 58, (.indexAddr 1 (.t 56) (.t 57)), none⟩,
      ⟨some 59, (.load false 1 (.t 58)), none⟩,
      ⟨some 60, (.move (.t 10)), none⟩,
      ⟨some 61, (.indexAddr 1 (.t 59) (.t 60)), none⟩,
      ⟨some 62, (.load false 1 (.t 61)), none⟩,
      ⟨some 63, (.indexAddr 1 (.t 55) (.t 62)), none⟩,
      ⟨none, (.store 1 (.t 63) (.c (.s (.bool true)))), none⟩] [] [])
    (.region [
      ⟨some 64, (.move (.t 7)), none⟩,
      ⟨some 65, (.move (.t 5)), none⟩,
      ⟨some 66, (.move (.t 9)), none⟩,
      ⟨some 67, (.indexAddr 1 (.t 65) (.t 66)), none⟩,
      ⟨some 68, (.load false 1 (.t 67)), none⟩,
      ⟨some 69, (.move (.t 10)), none⟩,
      ⟨some 70, (.indexAddr 1 (.t 68) (.t 69)), none⟩,
      ⟨some 71, (.load false 1 (.t 70)), none⟩,
      ⟨some 72, (.buildSl 1 1 [(.s (.int .i64 0))] [(0, (.t 71))]), none⟩,
      ⟨some 73, (.append 1 8 (.t 64) (.t 72)), none⟩,
      ⟨some 7, (.move (.t 73)), none⟩] [] [])))))))
def c_graph_Post_k0 : List Nat := [29, 30, 31, 32, 33, 34, 35, 36, 37, 9, 38, 39, 40, 41, 42, 43, 10, 44, 45, 46, 47, 48, 49, 50, 51, 52, 53, 54, 55, 56, 57, 58, 59, 60, 61, 62, 63, 64, 65, 66, 67, 68, 69, 70, 71, 72, 73]
def c_graph_Post : ACFun := { ntmps := 77, results := [(.tmp 4)], body :=
  (.seq (.region [
    ⟨some 4, (.move (.c (.s (.slice none 0 0)))), none⟩] [] [])
  (.seq (.seq (.region [
    ⟨some 11, (.move (.t 1)), none⟩,
    ⟨some 12, (.bin .lss (.t 11) (.c (.s (.int .i64 0)))), none⟩,
    ⟨some 13, (.move (.t 12)), none⟩,
    ⟨some 14, (.move (.t 1)), some (13, false)⟩,
    ⟨some 15, (.move (.t 0)), some (13, false)⟩,
    ⟨some 16, (.lenS .s (.t 15)), some (13, false)⟩,
    ⟨some 17, (.bin .geq (.t 14) (.t 16)), some (13, false)⟩,
    ⟨some 18, (.pick (.t 13) (.c (.s (.bool true))) (.t 17)), none⟩] [] [])
  (.cond (.t 18)
    (.seq (.region [
      ⟨some 4, (.move (.c (.s (.slice none 0 0)))), none⟩] [] [])
    .ret)
    .skip))
  (.seq (.region [
    ⟨some 19, (.move (.t 0)), none⟩,
    ⟨some 20, (.call (.c (.fn 12 [] [])) [(.t 19)]), none⟩,
    ⟨some 5, (.move (.t 20)), none⟩] [] [])
  (.seq (.region [
    ⟨some 21, (.move (.t 0)), none⟩,
    ⟨some 22, (.lenS .s (.t 21)), none⟩,
    ⟨some 23, (.mkSl [(.s (.bool false))] 1 1 (.t 22) (.t 22)), none⟩,
    ⟨some 6, (.alloc [(.s (.slice none 0 0))]), none⟩,
    ⟨none, (.store 1 (.t 6) (.t 23)), none⟩] [] [])
  (.seq (.region [
    ⟨some 24, (.load false 1 (.t 6)), none⟩,
    ⟨some 25, (.move (.t 1)), none⟩,
    ⟨some 26, (.indexAddr 1 (.t 24) (.t 25)), none⟩,
    ⟨none, (.store 1 (.t 26) (.c (.s (.bool true)))), none⟩] [] [])
  (.seq (.region [
    ⟨some 27, (.move (.t 1)), none⟩,
    ⟨some 28, (.buildSl 1 1 [(.s (.int .i64 0))] [(0, (.t 27))]), none⟩,
    ⟨some 7, (.move (.t 28)), none⟩] [] [])
  (.seq (.region [
    ⟨some 8, (.move (.c (.s (.slice none 0 0)))), none⟩] [] [])
  (.seq (.block 0
    (.loop c_graph_Post_k0 c_graph_Post_l0))
  (.seq (.region [
    ⟨some 74, (.move (.t 8)), none⟩,
    ⟨some 75, (.call (.c (.fn 35 [] [])) [(.t 74)]), none⟩] [] [])
  (.seq (.region [
    ⟨some 76, (.move (.t 8)), none⟩,
    ⟨some 4, (.move (.t 76)), none⟩] [] [])
  .ret)))))))))) }
/- 25 gnomon/gnomonlaw07.known -/
def c_gnomonlaw07_known : ACFun := { ntmps := 6, results := [(.tmp 0)], body :=
  (.seq (.region [
    ⟨some 0, (.move (.c (.s (.slice none 0 0)))), none⟩] [] [])
  (.seq (.region [
    ⟨some 1, (.buildSl 1 2 [(.s (.int .i64 0)), (.s (.int .i64 0))] [(0, (.c (.s (.int .i64 1)))), (1, (.c (.s (.int .i64 2))))]), none⟩,
    ⟨some 2, (.buildSl 1 1 [(.s (.int .i64 0))] [(0, (.c (.s (.int .i64 3))))]), none⟩,
    ⟨some 3, (.buildSl 1 1 [(.s (.int .i64 0))] [(0, (.c (.s (.int .i64 3))))]), none⟩,
    ⟨some 4, (.buildSl 1 1 [(.s (.int .i64 0))] [(0, (.c (.s (.int .i64 1))))]), none⟩,
    ⟨some 5, (.buildSl 1 4 [(.s (.slice none 0 0)), (.s (.slice none 0 0)), (.s (.slice none 0 0)), (.s (.slice none 0 0))] [(0, (.t 1)), (1, (.t 2)), (2, (.t 3)), (3, (.t 4))]), none⟩,
    ⟨some 0, (.move (.t 5)), none⟩] [] [])
  .ret)) }
/- 26 slices.DeleteFunc[[]int,int] -/
def c_slices_DeleteFunc_int_int_l0 : ACode :=
  (.seq (.seq (.region [
    ⟨some 16, (.move (.t 6)), none⟩,
    ⟨some 17, (.move (.t 0)), none⟩,
    ⟨some 18, (.lenS .s (.t 17)), none⟩,
    ⟨some 19, (.bin .lss (.t 16) (.t 18)), none⟩] [] [])
  (.cond (.t 19)
    .skip
    (.exit 0)))
  (.seq (.block 1
    (.seq (.region [
      ⟨some 22, (.move (.t 0)), none⟩,
      ⟨some 23, (.move (.t 6)), none⟩,
      ⟨some 24, (.indexAddr 1 (.t 22) (.t 23)), none⟩,
      ⟨some 25, (.load false 1 (.t 24)), none⟩,
      ⟨some 7, (.move (.t 25)), none⟩] [] [])
    (.seq (.region [
      ⟨some 26, (.move (.t 1)), none⟩,
      ⟨some 27, (.move (.t 7)), none⟩,
      ⟨some 28, (.call (.t 26) [(.t 27)]), none⟩,
      ⟨some 29, (.un .not (.t 28)), none⟩] [] [])
    (.cond (.t 29)
      (.seq (.region [
        ⟨some 30, (.move (.t 0)), none⟩,
        ⟨some 31, (.move (.t 5)), none⟩,
        ⟨some 32, (.move (.t 7)), none⟩,
        ⟨some 33, (.indexAddr 1 (.t 30) (.t 31)), none⟩,
        ⟨none, (.store 1 (.t 33) (.t 32)), none⟩] [] [])
      (.region [
        ⟨some 34, (.move (.t 5)), none⟩,
        ⟨some 35, (.bin .add (.t 34) (.c (.s (.int .i64 1)))), none⟩,
        ⟨some 5, (.move (.t 35)), none⟩] [] []))
      .skip))))
  (.region [
    ⟨some 20, (.move (.t 6)), none⟩,
    ⟨some 21, (.bin .add (.t 20) (.c (.s (.int .i64 1)))), none⟩,
    ⟨some 6, (.move (.t 21)), none⟩] [] [])))
def c_slices_DeleteFunc_int_int_k0 : List Nat := [16, 17, 18, 19, 22, 23, 24, 25, 7, 26, 27, 28, 29, 30, 31, 32, 33, 34, 35, 20, 21]
def c_slices_DeleteFunc_int_int : ACFun := { ntmps := 42, results := [(.tmp 4)], body :=
  (.seq (.region [
    ⟨some 4, (.move (.c (.s (.slice none 0 0)))), none⟩] [] [])
  (.seq (.region [
    ⟨some 8, (.move (.t 0)), none⟩,
    ⟨some 9, (.move (.t 1)), none⟩,
    ⟨some 10, (.call (.c (.fn 33 [] [])) [(.t 8), (.t 9)]), none⟩,
    ⟨some 5, (.move (.t 10)), none⟩] [] [])
  (.seq (.seq (.region [
    ⟨some 11, (.move (.t 5)), none⟩,
    ⟨some 12, (.bin .eql (.t 11) (.c (.s (.int .i64 (-1))))), none⟩] [] [])
  (.cond (.t 12)
    (.seq (.region [
      ⟨some 13, (.move (.t 0)), none⟩,
      ⟨some 4, (.move (.t 13)), none⟩] [] [])
    .ret)
    .skip))
  (.seq (.seq (.region [
    ⟨some 14, (.move (.t 5)), none⟩,
    ⟨some 15, (.bin .add (.t 14) (.c (.s (.int .i64 1)))), none⟩,
    ⟨some 6, (.move (.t 15)), none⟩] [] [])
  (.block 0
    (.loop c_slices_DeleteFunc_int_int_k0 c_slices_DeleteFunc_int_int_l0)))
  (.seq (.region [
    ⟨some 36, (.move (.t 0)), none⟩,
    ⟨some 37, (.move (.t 5)), none⟩,
    ⟨some 38, (.subSl 1 (.t 36) (some (.t 37)) none none), none⟩,
    ⟨none, (.clearSl 1 [(.s (.int .i64 0))] (.t 38)), none⟩] [] [])
  (.seq (.region [
    ⟨some 39, (.move (.t 0)), none⟩,
    ⟨some 40, (.move (.t 5)), none⟩,
    ⟨some 41, (.subSl 1 (.t 39) none (some (.t 40)) none), none⟩,
    ⟨some 4, (.move (.t 41)), none⟩] [] [])
  .ret)))))) }
/- 27 slices.Clone[[]int,int] -/
def c_slices_Clone_int_int : ACFun := { ntmps := 8, results := [(.tmp 2)], body :=
  (.seq (.region [
    ⟨some 2, (.move (.c (.s (.slice none 0 0)))), none⟩] [] [])
  (.seq (.seq (.region [
    ⟨some 3, (.move (.t 0)), none⟩,
    ⟨some 4, (.eqNil .s false (.t 3)), none⟩] [] [])
  (.cond (.t 4)
    (.seq (.region [
      ⟨some 2, (.move (.c (.s (.slice none 0 0)))), none⟩] [] [])
    .ret)
    .skip))
  (.seq (.region [
    ⟨some 5, (.buildSl 1 0 [] []), none⟩,
    ⟨some 6, (.move (.t 0)), none⟩,
    ⟨some 7, (.append 1 8 (.t 5) (.t 6)), none⟩,
    ⟨some 2, (.move (.t 7)), none⟩] [] [])
  .ret))) }
/- 28 gnomon/graph.Norm$1 -/
def c_graph_Norm_1 : ACFun := { ntmps := 12, results := [(.tmp 3)], body :=
  (.seq (.region [
    ⟨some 3, (.move (.c (.s (.bool false)))), none⟩] [] [])
  (.seq (.region [
    ⟨some 4, (.move (.t 0)), none⟩,
    ⟨some 5, (.bin .lss (.t 4) (.c (.s (.int .i64 0)))), none⟩,
    ⟨some 6, (.move (.t 5)), none⟩,
    ⟨some 7, (.move (.t 0)), some (6, false)⟩,
    ⟨some 8, (.load false 1 (.t 1)), some (6, false)⟩,
    ⟨some 9, (.lenS .s (.t 8)), some (6, false)⟩,
    ⟨some 10, (.bin .geq (.t 7) (.t 9)), some (6, false)⟩,
    ⟨some 11, (.pick (.t 6) (.c (.s (.bool true))) (.t 10)), none⟩,
    ⟨some 3, (.move (.t 11)), none⟩] [] [])
  .ret)) }
/- 29 slices.Sort[[]int,int] -/
def c_slices_Sort_int_int : ACFun := { ntmps := 11, results := [], body :=
  (.seq (.region [
    ⟨some 3, (.move (.t 0)), none⟩,
    ⟨some 4, (.lenS .s (.t 3)), none⟩,
    ⟨some 2, (.move (.t 4)), none⟩] [] [])
  (.region [
    ⟨some 5, (.move (.t 0)), none⟩,
    ⟨some 6, (.move (.t 2)), none⟩,
    ⟨some 7, (.move (.t 2)), none⟩,
    ⟨some 8, (.conv .u64 (.t 7)), none⟩,
    ⟨some 9, (.call (.c (.fn 38 [] [])) [(.t 8)]), none⟩,
    ⟨some 10, (.call (.c (.fn 37 [] [])) [(.t 5), (.c (.s (.int .i64 0))), (.t 6), (.t 9)]), none⟩] [] [])) }
/- 30 slices.Compact[[]int,int] -/
def c_slices_Compact_int_int_l0 : ACode :=
  (.seq (.seq (.region [
    ⟨some 29, (.move (.t 5)), none⟩,
    ⟨some 30, (.move (.t 4)), none⟩,
    ⟨some 31, (.lenS .s (.t 30)), none⟩,
    ⟨some 32, (.bin .lss (.t 29) (.t 31)), none⟩] [] [])
  (.cond (.t 32)
    .skip
    (.exit 2)))
  (.seq (.block 3
    (.seq (.region [
      ⟨some 35, (.move (.t 4)), none⟩,
      ⟨some 36, (.move (.t 5)), none⟩,
      ⟨some 37, (.indexAddr 1 (.t 35) (.t 36)), none⟩,
      ⟨some 38, (.load false 1 (.t 37)), none⟩,
      ⟨some 39, (.move (.t 4)), none⟩,
      ⟨some 40, (.move (.t 5)), none⟩,
      ⟨some 41, (.bin .sub (.t 40) (.c (.s (.int .i64 1)))), none⟩,
      ⟨some 42, (.indexAddr 1 (.t 39) (.t 41)), none⟩,
      ⟨some 43, (.load false 1 (.t 42)), none⟩,
      ⟨some 44, (.bin .neq (.t 38) (.t 43)), none⟩] [] [])
    (.cond (.t 44)
      (.seq (.region [
        ⟨some 45, (.move (.t 0)), none⟩,
        ⟨some 46, (.move (.t 3)), none⟩,
        ⟨some 47, (.move (.t 4)), none⟩,
        ⟨some 48, (.move (.t 5)), none⟩,
        ⟨some 49, (.indexAddr 1 (.t 47) (.t 48)), none⟩,
        ⟨some 50, (.load false 1 (.t 49)), none⟩,
        ⟨some 51, (.indexAddr 1 (.t 45) (.t 46)), none⟩,
        ⟨none, (.store 1 (.t 51) (.t 50)), none⟩] [] [])
      (.region [
        ⟨some 52, (.move (.t 3)), none⟩,
        ⟨some 53, (.bin .add (.t 52) (.c (.s (.int .i64 1)))), none⟩,
        ⟨some 3, (.move (.t 53)), none⟩] [] []))
      .skip)))
  (.region [
    ⟨some 33, (.move (.t 5)), none⟩,
    ⟨some 34, (.bin .add (.t 33) (.c (.s (.int .i64 1)))), none⟩,
    ⟨some 5, (.move (.t 34)), none⟩] [] [])))
def c_slices_Compact_int_int_k0 : List Nat := [29, 30, 31, 32, 35, 36, 37, 38, 39, 40, 41, 42, 43, 44, 45, 46, 47, 48, 49, 50, 51, 52, 53, 33, 34]
def c_slices_Compact_int_int_l1 : ACode :=
  (.seq (.seq (.region [
    ⟨some 10, (.move (.t 3)), none⟩,
    ⟨some 11, (.move (.t 0)), none⟩,
    ⟨some 12, (.lenS .s (.t 11)), none⟩,
    ⟨some 13, (.bin .lss (.t 10) (.t 12)), none⟩] [] [])
  (.cond (.t 13)
    .skip
    (.exit 0)))
  (.seq (.block 1
    (.seq (.region [
      ⟨some 16, (.move (.t 0)), none⟩,
      ⟨some 17, (.move (.t 3)), none⟩,
      ⟨some 18, (.indexAddr 1 (.t 16) (.t 17)), none⟩,
      ⟨some 19, (.load false 1 (.t 18)), none⟩,
      ⟨some 20, (.move (.t 0)), none⟩,
      ⟨some 21, (.move (.t 3)), none⟩,
      ⟨some 22, (.bin .sub (.t 21) (.c (.s (.int .i64 1)))), none⟩,
      ⟨some 23, (.indexAddr 1 (.t 20) (.t 22)), none⟩,
      ⟨some 24, (.load false 1 (.t 23)), none⟩,
      ⟨some 25, (.bin .eql (.t 19) (.t 24)), none⟩] [] [])
    (.cond (.t 25)
      (.seq (.region [
        ⟨some 26, (.move (.t 0)), none⟩,
        ⟨some 27, (.move (.t 3)), none⟩,
        ⟨some 28, (.subSl 1 (.t 26) (some (.t 27)) none none), none⟩,
        ⟨some 4, (.move (.t 28)), none⟩] [] [])
      (.seq (.seq (.region [
        ⟨some 5, (.move (.c (.s (.int .i64 1)))), none⟩] [] [])
      (.block 2
        (.loop c_slices_Compact_int_int_k0 c_slices_Compact_int_int_l0)))
      (.seq (.region [
        ⟨some 54, (.move (.t 0)), none⟩,
        ⟨some 55, (.move (.t 3)), none⟩,
        ⟨some 56, (.subSl 1 (.t 54) (some (.t 55)) none none), none⟩,
        ⟨none, (.clearSl 1 [(.s (.int .i64 0))] (.t 56)), none⟩] [] [])
      (.seq (.region [
        ⟨some 57, (.move (.t 0)), none⟩,
        ⟨some 58, (.move (.t 3)), none⟩,
        ⟨some 59, (.subSl 1 (.t 57) none (some (.t 58)) none), none⟩,
        ⟨some 2, (.move (.t 59)), none⟩] [] [])
      .ret))))
      .skip)))
  (.region [
    ⟨some 14, (.move (.t 3)), none⟩,
    ⟨some 15, (.bin .add (.t 14) (.c (.s (.int .i64 1)))), none⟩,
    ⟨some 3, (.move (.t 15)), none⟩] [] [])))
def c_slices_Compact_int_int_k1 : List Nat := [10, 11, 12, 13, 16, 17, 18, 19, 20, 21, 22, 23, 24, 25, 26, 27, 28, 4, 5, 29, 30, 31, 32, 35, 36, 37, 38, 39, 40, 41, 42, 43, 44, 45, 46, 47, 48, 49, 50, 51, 52, 53, 33, 34, 54, 55, 56, 57, 58, 59, 14, 15]
def c_slices_Compact_int_int : ACFun := { ntmps := 61, results := [(.tmp 2)], body :=
  (.seq (.region [
    ⟨some 2, (.move (.c (.s (.slice none 0 0)))), none⟩] [] [])
  (.seq (.seq (.region [
    ⟨some 6, (.move (.t 0)), none⟩,
    ⟨some 7, (.lenS .s (.t 6)), none⟩,
    ⟨some 8, (.bin .lss (.t 7) (.c (.s (.int .i64 2)))), none⟩] [] [])
  (.cond (.t 8)
    (.seq (.region [
      ⟨some 9, (.move (.t 0)), none⟩,
      ⟨some 2, (.move (.t 9)), none⟩] [] [])
    .ret)
    .skip))
  (.seq (.seq (.region [
    ⟨some 3, (.move (.c (.s (.int .i64 1)))), none⟩] [] [])
  (.block 0
    (.loop c_slices_Compact_int_int_k1 c_slices_Compact_int_int_l1)))
  (.seq (.region [
    ⟨some 60, (.move (.t 0)), none⟩,
    ⟨some 2, (.move (.t 60)), none⟩] [] [])
  .ret)))) }
/- 32 gnomon/graph.Reach$1 -/
def c_graph_Reach_1 : ACFun := { ntmps := 27, results := [], body :=
  (.seq (.region [
    ⟨some 5, (.move (.t 0)), none⟩,
    ⟨some 6, (.bin .geq (.t 5) (.c (.s (.int .i64 0)))), none⟩,
    ⟨some 7, (.move (.t 6)), none⟩,
    ⟨some 8, (.move (.t 0)), some (7, true)⟩,
    ⟨some 9, (.load false 1 (.t 1)), some (7, true)⟩,
    ⟨some 10, (.lenS .s (.t 9)), some (7, true)⟩,
    ⟨some 11, (.bin .lss (.t 8) (.t 10)), some (7, true)⟩,
    ⟨some 12, (.pick (.t 7) (.t 11) (.c (.s (.bool false)))), none⟩,
    ⟨some 13, (.move (.t 12)), none⟩,
    ⟨some 14, (.load false 1 (.t 2)), some (13, true)⟩,
    ⟨some 15, (.move (.t 0)), some (13, true)⟩,
    ⟨some 16, (.indexAddr 1 (.t 14) (.t 15)), some (13, true)⟩,
    ⟨some 17, (.load false 1 (.t 16)), some (13, true)⟩,
    ⟨some 18, (.un .not (.t 17)), some (13, true)⟩,
    ⟨some 19, (.pick (.t 13) (.t 18) (.c (.s (.bool false)))), none⟩] [] [])
  (.cond (.t 19)
    (.seq (.region [
      ⟨some 20, (.load false 1 (.t 2)), none⟩,
      ⟨some 21, (.move (.t 0)), none⟩,
      ⟨some 22, (.indexAddr 1 (.t 20) (.t 21)), none⟩,
      ⟨none, (.store 1 (.t 22) (.c (.s (.bool true)))), none⟩] [] [])
    (.region [
      ⟨some 23, (.load false 1 (.t 3)), none⟩,
      ⟨some 24, (.move (.t 0)), none⟩,
      ⟨some 25, (.buildSl 1 1 [(.s (.int .i64 0))] [(0, (.t 24))]), none⟩,
      ⟨some 26, (.append 1 8 (.t 23) (.t 25)), none⟩,
      ⟨none, (.store 1 (.t 3) (.t 26)), none⟩] [] []))
    .skip)) }
/- 33 slices.IndexFunc[[]int,int] -/
def c_slices_IndexFunc_int_int_l0 : ACode :=
  (.seq (.region [
    ⟨some 9, (.bin .lss (.t 8) (.t 7)), none⟩] [] [])
  (.seq (.cond (.t 9)
    .skip
    (.exit 0))
  (.seq (.block 1
    (.seq (.region [
      ⟨some 10, (.move (.t 8)), none⟩,
      ⟨some 5, (.move (.t 10)), none⟩] [] [])
    (.seq (.region [
      ⟨some 11, (.move (.t 1)), none⟩,
      ⟨some 12, (.move (.t 0)), none⟩,
      ⟨some 13, (.move (.t 5)), none⟩,
      ⟨some 14, (.indexAddr 1 (.t 12) (.t 13)), none⟩,
      ⟨some 15, (.load false 1 (.t 14)), none⟩,
      ⟨some 16, (.call (.t 11) [(.t 15)]), none⟩] [] [])
    (.cond (.t 16)
      (.seq (.region [
        ⟨some 17, (.move (.t 5)), none⟩,
        ⟨some 4, (.move (.t 17)), none⟩] [] [])
      .ret)
      .skip))))
  (.region [
    ⟨some 18, (.bin .add (.t 8) (.c (.s (.int .i64 1)))), none⟩,
    ⟨some 8, (.move (.t 18)), none⟩] [] []))))
def c_slices_IndexFunc_int_int_k0 : List Nat := [9, 10, 5, 11, 12, 13, 14, 15, 16, 17, 18]
def c_slices_IndexFunc_int_int : ACFun := { ntmps := 19, results := [(.tmp 4)], body :=
  (.seq (.region [
    ⟨some 4, (.move (.c (.s (.int .i64 0)))), none⟩] [] [])
  (.seq (.seq (.region [
    ⟨some 6, (.move (.t 0)), none⟩,
    ⟨some 7, (.lenS .s (.t 6)), none⟩,
    ⟨some 8, (.move (.c (.s (.int .i64 0)))), none⟩] [] [])
  (.block 0
    (.loop c_slices_IndexFunc_int_int_k0 c_slices_IndexFunc_int_int_l0)))
  (.seq (.region [
    ⟨some 4, (.move (.c (.s (.int .i64 (-1))))), none⟩] [] [])
  .ret))) }
/- 34 gnomon/graph.Post$1 -/
def c_graph_Post_1 : ACFun := { ntmps := 9, results := [(.tmp 3)], body :=
  (.seq (.region [
    ⟨some 3, (.move (.c (.s (.bool false)))), none⟩] [] [])
  (.seq (.region [
    ⟨some 4, (.load false 1 (.t 1)), none⟩,
    ⟨some 5, (.move (.t 0)), none⟩,
    ⟨some 6, (.indexAddr 1 (.t 4) (.t 5)), none⟩,
    ⟨some 7, (.load false 1 (.t 6)), none⟩,
    ⟨some 8, (.un .not (.t 7)), none⟩,
    ⟨some 3, (.move (.t 8)), none⟩] [] [])
  .ret)) }
/- 35 slices.Reverse[[]int,int] -/
def c_slices_Reverse_int_int_l0 : ACode :=
  (.seq (.seq (.region [
    ⟨some 7, (.move (.t 2)), none⟩,
    ⟨some 8, (.move (.t 3)), none⟩,
    ⟨some 9, (.bin .lss (.t 7) (.t 8)), none⟩] [] [])
  (.cond (.t 9)
    .skip
    (.exit 0)))
  (.seq (.block 1
    (.region [
      ⟨some 14, (.move (.t 0)), none⟩,
      ⟨some 15, (.move (.t 2)), none⟩,
      ⟨some 16, (.move (.t 0)), none⟩,
      ⟨some 17, (.move (.t 3)), none⟩,
      ⟨some 18, (.move (.t 0)), none⟩,
      ⟨some 19, (.move (.t 3)), none⟩,
      ⟨some 20, (.indexAddr 1 (.t 18) (.t 19)), none⟩,
      ⟨some 21, (.load false 1 (.t 20)), none⟩,
      ⟨some 22, (.move (.t 0)), none⟩,
      ⟨some 23, (.move (.t 2)), none⟩,
      ⟨some 24, (.indexAddr 1 (.t 22) (.t 23)), none⟩,
      ⟨some 25, (.load false 1 (.t 24)), none⟩,
      ⟨some 26, (.indexAddr 1 (.t 14) (.t 15)), none⟩,
      ⟨none, (.store 1 (.t 26) (.t 21)), none⟩,
      ⟨some 27, (.indexAddr 1 (.t 16) (.t 17)), none⟩,
      ⟨none, (.store 1 (.t 27) (.t 25)), none⟩] [] []))
  (.region [
    ⟨some 10, (.move (.t 2)), none⟩,
    ⟨some 11, (.bin .add (.t 10) (.c (.s (.int .i64 1)))), none⟩,
    ⟨some 12, (.move (.t 3)), none⟩,
    ⟨some 13, (.bin .sub (.t 12) (.c (.s (.int .i64 1)))), none⟩,
    ⟨some 2, (.move (.t 11)), none⟩,
    ⟨some 3, (.move (.t 13)), none⟩] [] [])))
def c_slices_Reverse_int_int_k0 : List Nat := [7, 8, 9, 14, 15, 16, 17, 18, 19, 20, 21, 22, 23, 24, 25, 26, 27, 10, 11, 12, 13]
def c_slices_Reverse_int_int : ACFun := { ntmps := 28, results := [], body :=
  (.seq (.region [
    ⟨some 4, (.move (.t 0)), none⟩,
    ⟨some 5, (.lenS .s (.t 4)), none⟩,
    ⟨some 6, (.bin .sub (.t 5) (.c (.s (.int .i64 1)))), none⟩,
    ⟨some 2, (.move (.c (.s (.int .i64 0)))), none⟩,
    ⟨some 3, (.move (.t 6)), none⟩] [] [])
  (.block 0
    (.loop c_slices_Reverse_int_int_k0 c_slices_Reverse_int_int_l0))) }
/- 37 slices.pdqsortOrdered[int] -/
def c_slices_pdqsortOrdered_int_l0 : ACode :=
  (.block 1
    (.seq (.region [
      ⟨some 19, (.move (.t 2)), none⟩,
      ⟨some 20, (.move (.t 1)), none⟩,
      ⟨some 21, (.bin .sub (.t 19) (.t 20)), none⟩,
      ⟨some 10, (.move (.t 21)), none⟩] [] [])
    (.seq (.seq (.region [
      ⟨some 22, (.move (.t 10)), none⟩,
      ⟨some 23, (.bin .leq (.t 22) (.c (.s (.int .i64 12)))), none⟩] [] [])
    (.cond (.t 23)
      (.seq (.region [
        ⟨some 24, (.move (.t 0)), none⟩,
        ⟨some 25, (.move (.t 1)), none⟩,
        ⟨some 26, (.move (.t 2)), none⟩,
        ⟨some 27, (.call (.c (.fn 40 [] [])) [(.t 24), (.t 25), (.t 26)]), none⟩] [] [])
      .ret)
      .skip))
    (.seq (.seq (.region [
      ⟨some 28, (.move (.t 3)), none⟩,
      ⟨some 29, (.bin .eql (.t 28) (.c (.s (.int .i64 0)))), none⟩] [] [])
    (.cond (.t 29)
      (.seq (.region [
        ⟨some 30, (.move (.t 0)), none⟩,
        ⟨some 31, (.move (.t 1)), none⟩,
        ⟨some 32, (.move (.t 2)), none⟩,
        ⟨some 33, (.call (.c (.fn 41 [] [])) [(.t 30), (.t 31), (.t 32)]), none⟩] [] [])
      .ret)
      .skip))
    (.seq (.seq (.region [
      ⟨some 34, (.move (.t 8)), none⟩,
      ⟨some 35, (.un .not (.t 34)), none⟩] [] [])
    (.cond (.t 35)
      (.seq (.region [
        ⟨some 36, (.move (.t 0)), none⟩,
        ⟨some 37, (.move (.t 1)), none⟩,
        ⟨some 38, (.move (.t 2)), none⟩,
        ⟨some 39, (.call (.c (.fn 42 [] [])) [(.t 36), (.t 37), (.t 38)]), none⟩] [] [])
      (.region [
        ⟨some 40, (.move (.t 3)), none⟩,
        ⟨some 41, (.bin .sub (.t 40) (.c (.s (.int .i64 1)))), none⟩,
        ⟨some 3, (.move (.t 41)), none⟩] [] []))
      .skip))
    (.seq (.region [
      ⟨some 43, (.move (.t 0)), none⟩,
      ⟨some 44, (.move (.t 1)), none⟩,
      ⟨some 45, (.move (.t 2)), none⟩,
      ⟨some 46, (.call (.c (.fn 43 [] [])) [(.t 43), (.t 44), (.t 45)]), none⟩,
      ⟨some 42, (.move (.t 46)), none⟩,
      ⟨some 47, (.extract (.t 42) 0), none⟩,
      ⟨some 48, (.extract (.t 42) 1), none⟩,
      ⟨some 11, (.move (.t 47)), none⟩,
      ⟨some 12, (.move (.t 48)), none⟩] [] [])
    (.seq (.seq (.region [
      ⟨some 49, (.move (.t 12)), none⟩,
      ⟨some 50, (.bin .eql (.t 49) (.c (.s (.int .i64 2)))), none⟩] [] [])
    (.cond (.t 50)
      (.seq (.region [
        ⟨some 51, (.move (.t 0)), none⟩,
        ⟨some 52, (.move (.t 1)), none⟩,
        ⟨some 53, (.move (.t 2)), none⟩,
        ⟨some 54, (.call (.c (.fn 44 [] [])) [(.t 51), (.t 52), (.t 53)]), none⟩] [] [])
      (.seq (.region [
        ⟨some 55, (.move (.t 2)), none⟩,
        ⟨some 56, (.bin .sub (.t 55) (.c (.s (.int .i64 1)))), none⟩,
        ⟨some 57, (.move (.t 11)), none⟩,
        ⟨some 58, (.move (.t 1)), none⟩,
        ⟨some 59, (.bin .sub (.t 57) (.t 58)), none⟩,
        ⟨some 60, (.bin .sub (.t 56) (.t 59)), none⟩,
        ⟨some 11, (.move (.t 60)), none⟩] [] [])
      (.region [
        ⟨some 12, (.move (.c (.s (.int .i64 1)))), none⟩] [] [])))
      .skip))
    (.seq (.seq (.region [
      ⟨some 61, (.move (.t 8)), none⟩,
      ⟨some 62, (.move (.t 61)), none⟩,
      ⟨some 63, (.move (.t 9)), some (62, true)⟩,
      ⟨some 64, (.pick (.t 62) (.t 63) (.c (.s (.bool false)))), none⟩,
      ⟨some 65, (.move (.t 64)), none⟩,
      ⟨some 66, (.move (.t 12)), some (65, true)⟩,
      ⟨some 67, (.bin .eql (.t 66) (.c (.s (.int .i64 1)))), some (65, true)⟩,
      ⟨some 68, (.pick (.t 65) (.t 67) (.c (.s (.bool false)))), none⟩] [] [])
    (.cond (.t 68)
      (.seq (.region [
        ⟨some 69, (.move (.t 0)), none⟩,
        ⟨some 70, (.move (.t 1)), none⟩,
        ⟨some 71, (.move (.t 2)), none⟩,
        ⟨some 72, (.call (.c (.fn 45 [] [])) [(.t 69), (.t 70), (.t 71)]), none⟩] [] [])
      (.cond (.t 72)
        .ret
        .skip))
      .skip))
    (.seq (.seq (.region [
      ⟨some 73, (.move (.t 1)), none⟩,
      ⟨some 74, (.bin .gtr (.t 73) (.c (.s (.int .i64 0)))), none⟩,
      ⟨some 75, (.move (.t 74)), none⟩,
      ⟨some 76, (.move (.t 0)), some (75, true)⟩,
      ⟨some 77, (.move (.t 1)), some (75, true)⟩,
      ⟨some 78, (.bin .sub (.t 77) (.c (.s (.int .i64 1)))), some (75, true)⟩,
      ⟨some 79, (.indexAddr 1 (.t 76) (.t 78)), some (75, true)⟩,
      ⟨some 80, (.load false 1 (.t 79)), some (75, true)⟩,
      ⟨some 81, (.move (.t 0)), some (75, true)⟩,
      ⟨some 82, (.move (.t 11)), some (75, true)⟩,
      ⟨some 83, (.indexAddr 1 (.t 81) (.t 82)), some (75, true)⟩,
      ⟨some 84, (.load false 1 (.t 83)), some (75, true)⟩,
      ⟨some 85, (.call (.c (.fn 46 [] [])) [(.t 80), (.t 84)]), some (75, true)⟩,
      ⟨some 86, (.un .not (.t 85)), some (75, true)⟩,
      ⟨some 87, (.pick (.t 75) (.t 86) (.c (.s (.bool false)))), none⟩] [] [])
    (.cond (.t 87)
      (.seq (.region [
        ⟨some 88, (.move (.t 0)), none⟩,
        ⟨some 89, (.move (.t 1)), none⟩,
        ⟨some 90, (.move (.t 2)), none⟩,
        ⟨some 91, (.move (.t 11)), none⟩,
        ⟨some 92, (.call (.c (.fn 47 [] [])) [(.t 88), (.t 89), (.t 90), (.t 91)]), none⟩,
        ⟨some 13, (.move (.t 92)), none⟩] [] [])
      (.seq (.region [
        ⟨some 93, (.move (.t 13)), none⟩,
        ⟨some 1, (.move (.t 93)), none⟩] [] [])
      (.exit 1)))
      .skip))
    (.seq (.region [
      ⟨some 95, (.move (.t 0)), none⟩,
      ⟨some 96, (.move (.t 1)), none⟩,
      ⟨some 97, (.move (.t 2)), none⟩,
      ⟨some 98, (.move (.t 11)), none⟩,
      ⟨some 99, (.call (.c (.fn 48 [] [])) [(.t 95), (.t 96), (.t 97), (.t 98)]), none⟩,
      ⟨some 94, (.move (.t 99)), none⟩,
      ⟨some 100, (.extract (.t 94) 0), none⟩,
      ⟨some 101, (.extract (.t 94) 1), none⟩,
      ⟨some 14, (.move (.t 100)), none⟩,
      ⟨some 15, (.move (.t 101)), none⟩] [] [])
    (.seq (.region [
      ⟨some 102, (.move (.t 15)), none⟩,
      ⟨some 9, (.move (.t 102)), none⟩] [] [])
    (.seq (.region [
      ⟨some 103, (.move (.t 14)), none⟩,
      ⟨some 104, (.move (.t 1)), none⟩,
      ⟨some 105, (.bin .sub (.t 103) (.t 104)), none⟩,
      ⟨some 106, (.move (.t 2)), none⟩,
      ⟨some 107, (.move (.t 14)), none⟩,
      ⟨some 108, (.bin .sub (.t 106) (.t 107)), none⟩,
      ⟨some 16, (.move (.t 105)), none⟩,
      ⟨some 17, (.move (.t 108)), none⟩] [] [])
    (.seq (.region [
      ⟨some 109, (.move (.t 10)), none⟩,
      ⟨some 110, (.bin .quo (.t 109) (.c (.s (.int .i64 8)))), none⟩,
      ⟨some 18, (.move (.t 110)), none⟩] [] [])
    (.seq (.region [
      ⟨some 111, (.move (.t 16)), none⟩,
      ⟨some 112, (.move (.t 17)), none⟩,
      ⟨some 113, (.bin .lss (.t 111) (.t 112)), none⟩] [] [])
    (.cond (.t 113)
      (.seq (.region [
        ⟨some 114, (.move (.t 16)), none⟩,
        ⟨some 115, (.move (.t 18)), none⟩,
        ⟨some 116, (.bin .geq (.t 114) (.t 115)), none⟩,
        ⟨some 8, (.move (.t 116)), none⟩] [] [])
      (.seq (.region [
        ⟨some 117, (.move (.t 0)), none⟩,
        ⟨some 118, (.move (.t 1)), none⟩,
        ⟨some 119, (.move (.t 14)), none⟩,
        ⟨some 120, (.move (.t 3)), none⟩,
        ⟨some 121, (.call (.c (.fn 37 [] [])) [(.t 117), (.t 118), (.t 119), (.t 120)]), none⟩] [] [])
      (.region [
        ⟨some 122, (.move (.t 14)), none⟩,
        ⟨some 123, (.bin .add (.t 122) (.c (.s (.int .i64 1)))), none⟩,
        ⟨some 1, (.move (.t 123)), none⟩] [] [])))
      (.seq (.region [
        ⟨some 124, (.move (.t 17)), none⟩,
        ⟨some 125, (.move (.t 18)), none⟩,
        ⟨some 126, (.bin .geq (.t 124) (.t 125)), none⟩,
        ⟨some 8, (.move (.t 126)), none⟩] [] [])
      (.seq (.region [
        ⟨some 127, (.move (.t 0)), none⟩,
        ⟨some 128, (.move (.t 14)), none⟩,
        ⟨some 129, (.bin .add (.t 128) (.c (.s (.int .i64 1)))), none⟩,
        ⟨some 130, (.move (.t 2)), none⟩,
        ⟨some 131, (.move (.t 3)), none⟩,
        ⟨some 132, (.call (.c (.fn 37 [] [])) [(.t 127), (.t 129), (.t 130), (.t 131)]), none⟩] [] [])
      (.region [
        ⟨some 133, (.move (.t 14)), none⟩,
        ⟨some 2, (.move (.t 133)), none⟩] [] []))))))))))))))))))
def c_slices_pdqsortOrdered_int_k0 : List Nat := [19, 20, 21, 10, 22, 23, 24, 25, 26, 27, 28, 29, 30, 31, 32, 33, 34, 35, 36, 37, 38, 39, 40, 41, 43, 44, 45, 46, 42, 47, 48, 11, 12, 49, 50, 51, 52, 53, 54, 55, 56, 57, 58, 59, 60, 61, 62, 63, 64, 65, 66, 67, 68, 69, 70, 71, 72, 73, 74, 75, 76, 77, 78, 79, 80, 81, 82, 83, 84, 85, 86, 87, 88, 89, 90, 91, 92, 13, 93, 95, 96, 97, 98, 99, 94, 100, 101, 14, 15, 102, 103, 104, 105, 106, 107, 108, 16, 17, 109, 110, 18, 111, 112, 113, 114, 115, 116, 117, 118, 119, 120, 121, 122, 123, 124, 125, 126, 127, 128, 129, 130, 131, 132, 133]
def c_slices_pdqsortOrdered_int : ACFun := { ntmps := 134, results := [], body :=
  (.seq (.region [
    ⟨some 8, (.move (.c (.s (.bool true)))), none⟩] [] [])
  (.seq (.region [
    ⟨some 9, (.move (.c (.s (.bool true)))), none⟩] [] [])
  (.block 0
    (.loop c_slices_pdqsortOrdered_int_k0 c_slices_pdqsortOrdered_int_l0)))) }
/- 38 math/bits.Len -/
def c_math_bits_Len : ACFun := { ntmps := 8, results := [(.tmp 2)], body :=
  (.seq (.region [
    ⟨some 2, (.move (.c (.s (.int .i64 0)))), none⟩] [] [])
  (.seq (.cond (.c (.s (.bool false)))
    (.seq (.region [
      ⟨some 3, (.move (.t 0)), none⟩,
      ⟨some 4, (.conv .u32 (.t 3)), none⟩,
      ⟨some 5, (.call (.c (.fn 49 [] [])) [(.t 4)]), none⟩,
      ⟨some 2, (.move (.t 5)), none⟩] [] [])
    .ret)
    .skip)
  (.seq (.region [
    ⟨some 6, (.move (.t 0)), none⟩,
    ⟨some 7, (.call (.c (.fn 50 [] [])) [(.t 6)]), none⟩,
    ⟨some 2, (.move (.t 7)), none⟩] [] [])
  .ret))) }
/- 40 slices.insertionSortOrdered[int] -/
def c_slices_insertionSortOrdered_int_l0 : ACode :=
  (.seq (.seq (.region [
    ⟨some 16, (.move (.t 7)), none⟩,
    ⟨some 17, (.move (.t 1)), none⟩,
    ⟨some 18, (.bin .gtr (.t 16) (.t 17)), none⟩,
    ⟨some 19, (.move (.t 18)), none⟩,
    ⟨some 20, (.move (.t 0)), some (19, true)⟩,
    ⟨some 21, (.move (.t 7)), some (19, true)⟩,
    ⟨some 22, (.indexAddr 1 (.t 20) (.t 21)), some (19, true)⟩,
    ⟨some 23, (.load false 1 (.t 22)), some (19, true)⟩,
    ⟨some 24, (.move (.t 0)), some (19, true)⟩,
    ⟨some 25, (.move (.t 7)), some (19, true)⟩,
    ⟨some 26, (.bin .sub (.t 25) (.c (.s (.int .i64 1)))), some (19, true)⟩,
    ⟨some 27, (.indexAddr 1 (.t 24) (.t 26)), some (19, true)⟩,
    ⟨some 28, (.load false 1 (.t 27)), some (19, true)⟩,
    ⟨some 29, (.call (.c (.fn 46 [] [])) [(.t 23), (.t 28)]), some (19, true)⟩,
    ⟨some 30, (.pick (.t 19) (.t 29) (.c (.s (.bool false)))), none⟩] [] [])
  (.cond (.t 30)
    .skip
    (.exit 2)))
  (.seq (.block 3
    (.region [
      ⟨some 33, (.move (.t 0)), none⟩,
      ⟨some 34, (.move (.t 7)), none⟩,
      ⟨some 35, (.move (.t 0)), none⟩,
      ⟨some 36, (.move (.t 7)), none⟩,
      ⟨some 37, (.bin .sub (.t 36) (.c (.s (.int .i64 1)))), none⟩,
      ⟨some 38, (.move (.t 0)), none⟩,
      ⟨some 39, (.move (.t 7)), none⟩,
      ⟨some 40, (.bin .sub (.t 39) (.c (.s (.int .i64 1)))), none⟩,
      ⟨some 41, (.indexAddr 1 (.t 38) (.t 40)), none⟩,
      ⟨some 42, (.load false 1 (.t 41)), none⟩,
      ⟨some 43, (.move (.t 0)), none⟩,
      ⟨some 44, (.move (.t 7)), none⟩,
      ⟨some 45, (.indexAddr 1 (.t 43) (.t 44)), none⟩,
      ⟨some 46, (.load false 1 (.t 45)), none⟩,
      ⟨some 47, (.indexAddr 1 (.t 33) (.t 34)), none⟩,
      ⟨none, (.store 1 (.t 47) (.t 42)), none⟩,
      ⟨some 48, (.indexAddr 1 (.t 35) (.t 37)), none⟩,
      ⟨none, (.store 1 (.t 48) (.t 46)), none⟩] [] []))
  (.region [
    ⟨some 31, (.move (.t 7)), none⟩,
    ⟨some 32, (.bin .sub (.t 31) (.c (.s (.int .i64 1)))), none⟩,
    ⟨some 7, (.move (.t 32)), none⟩] [] [])))
def c_slices_insertionSortOrdered_int_k0 : List Nat := [16, 17, 18, 19, 20, 21, 22, 23, 24, 25, 26, 27, 28, 29, 30, 33, 34, 35, 36, 37, 38, 39, 40, 41, 42, 43, 44, 45, 46, 47, 48, 31, 32]
def c_slices_insertionSortOrdered_int_l1 : ACode :=
  (.seq (.seq (.region [
    ⟨some 10, (.move (.t 6)), none⟩,
    ⟨some 11, (.move (.t 2)), none⟩,
    ⟨some 12, (.bin .lss (.t 10) (.t 11)), none⟩] [] [])
  (.cond (.t 12)
    .skip
    (.exit 0)))
  (.seq (.block 1
    (.seq (.region [
      ⟨some 15, (.move (.t 6)), none⟩,
      ⟨some 7, (.move (.t 15)), none⟩] [] [])
    (.block 2
      (.loop c_slices_insertionSortOrdered_int_k0 c_slices_insertionSortOrdered_int_l0))))
  (.region [
    ⟨some 13, (.move (.t 6)), none⟩,
    ⟨some 14, (.bin .add (.t 13) (.c (.s (.int .i64 1)))), none⟩,
    ⟨some 6, (.move (.t 14)), none⟩] [] [])))
def c_slices_insertionSortOrdered_int_k1 : List Nat := [10, 11, 12, 15, 7, 16, 17, 18, 19, 20, 21, 22, 23, 24, 25, 26, 27, 28, 29, 30, 33, 34, 35, 36, 37, 38, 39, 40, 41, 42, 43, 44, 45, 46, 47, 48, 31, 32, 13, 14]
def c_slices_insertionSortOrdered_int : ACFun := { ntmps := 49, results := [], body :=
  (.seq (.region [
    ⟨some 8, (.move (.t 1)), none⟩,
    ⟨some 9, (.bin .add (.t 8) (.c (.s (.int .i64 1)))), none⟩,
    ⟨some 6, (.move (.t 9)), none⟩] [] [])
  (.block 0
    (.loop c_slices_insertionSortOrdered_int_k1 c_slices_insertionSortOrdered_int_l1))) }
/- 41 slices.heapSortOrdered[int] -/
def c_slices_heapSortOrdered_int_l0 : ACode :=
  (.seq (.seq (.region [
    ⟨some 18, (.move (.t 9)), none⟩,
    ⟨some 19, (.bin .geq (.t 18) (.c (.s (.int .i64 0)))), none⟩] [] [])
  (.cond (.t 19)
    .skip
    (.exit 0)))
  (.seq (.block 1
    (.region [
      ⟨some 22, (.move (.t 0)), none⟩,
      ⟨some 23, (.move (.t 9)), none⟩,
      ⟨some 24, (.move (.t 8)), none⟩,
      ⟨some 25, (.move (.t 6)), none⟩,
      ⟨some 26, (.call (.c (.fn 51 [] [])) [(.t 22), (.t 23), (.t 24), (.t 25)]), none⟩] [] []))
  (.region [
    ⟨some 20, (.move (.t 9)), none⟩,
    ⟨some 21, (.bin .sub (.t 20) (.c (.s (.int .i64 1)))), none⟩,
    ⟨some 9, (.move (.t 21)), none⟩] [] [])))
def c_slices_heapSortOrdered_int_k0 : List Nat := [18, 19, 22, 23, 24, 25, 26, 20, 21]
def c_slices_heapSortOrdered_int_l1 : ACode :=
  (.seq (.seq (.region [
    ⟨some 29, (.move (.t 10)), none⟩,
    ⟨some 30, (.bin .geq (.t 29) (.c (.s (.int .i64 0)))), none⟩] [] [])
  (.cond (.t 30)
    .skip
    (.exit 2)))
  (.seq (.block 3
    (.seq (.region [
      ⟨some 33, (.move (.t 0)), none⟩,
      ⟨some 34, (.move (.t 6)), none⟩,
      ⟨some 35, (.move (.t 0)), none⟩,
      ⟨some 36, (.move (.t 6)), none⟩,
      ⟨some 37, (.move (.t 10)), none⟩,
      ⟨some 38, (.bin .add (.t 36) (.t 37)), none⟩,
      ⟨some 39, (.move (.t 0)), none⟩,
      ⟨some 40, (.move (.t 6)), none⟩,
      ⟨some 41, (.move (.t 10)), none⟩,
      ⟨some 42, (.bin .add (.t 40) (.t 41)), none⟩,
      ⟨some 43, (.indexAddr 1 (.t 39) (.t 42)), none⟩,
      ⟨some 44, (.load false 1 (.t 43)), none⟩,
      ⟨some 45, (.move (.t 0)), none⟩,
      ⟨some 46, (.move (.t 6)), none⟩,
      ⟨some 47, (.indexAddr 1 (.t 45) (.t 46)), none⟩,
      ⟨some 48, (.load false 1 (.t 47)), none⟩,
      ⟨some 49, (.indexAddr 1 (.t 33) (.t 34)), none⟩,
      ⟨none, (.store 1 (.t 49) (.t 44)), none⟩,
      ⟨some 50, (.indexAddr 1 (.t 35) (.t 38)), none⟩,
      ⟨none, (.store 1 (.t 50) (.t 48)), none⟩] [] [])
    (.region [
      ⟨some 51, (.move (.t 0)), none⟩,
      ⟨some 52, (.move (.t 7)), none⟩,
      ⟨some 53, (.move (.t 10)), none⟩,
      ⟨some 54, (.move (.t 6)), none⟩,
      ⟨some 55, (.call (.c (.fn 51 [] [])) [(.t 51), (.t 52), (.t 53), (.t 54)]), none⟩] [] [])))
  (.region [
    ⟨some 31, (.move (.t 10)), none⟩,
    ⟨some 32, (.bin .sub (.t 31) (.c (.s (.int .i64 1)))), none⟩,
    ⟨some 10, (.move (.t 32)), none⟩] [] [])))
def c_slices_heapSortOrdered_int_k1 : List Nat := [29, 30, 33, 34, 35, 36, 37, 38, 39, 40, 41, 42, 43, 44, 45, 46, 47, 48, 49, 50, 51, 52, 53, 54, 55, 31, 32]
def c_slices_heapSortOrdered_int : ACFun := { ntmps := 56, results := [], body :=
  (.seq (.region [
    ⟨some 11, (.move (.t 1)), none⟩,
    ⟨some 6, (.move (.t 11)), none⟩] [] [])
  (.seq (.region [
    ⟨some 7, (.move (.c (.s (.int .i64 0)))), none⟩] [] [])
  (.seq (.region [
    ⟨some 12, (.move (.t 2)), none⟩,
    ⟨some 13, (.move (.t 1)), none⟩,
    ⟨some 14, (.bin .sub (.t 12) (.t 13)), none⟩,
    ⟨some 8, (.move (.t 14)), none⟩] [] [])
  (.seq (.seq (.region [
    ⟨some 15, (.move (.t 8)), none⟩,
    ⟨some 16, (.bin .sub (.t 15) (.c (.s (.int .i64 1)))), none⟩,
    ⟨some 17, (.bin .quo (.t 16) (.c (.s (.int .i64 2)))), none⟩,
    ⟨some 9, (.move (.t 17)), none⟩] [] [])
  (.block 0
    (.loop c_slices_heapSortOrdered_int_k0 c_slices_heapSortOrdered_int_l0)))
  (.seq (.region [
    ⟨some 27, (.move (.t 8)), none⟩,
    ⟨some 28, (.bin .sub (.t 27) (.c (.s (.int .i64 1)))), none⟩,
    ⟨some 10, (.move (.t 28)), none⟩] [] [])
  (.block 2
    (.loop c_slices_heapSortOrdered_int_k1 c_slices_heapSortOrdered_int_l1))))))) }
/- 42 slices.breakPatternsOrdered[int] -/
def c_slices_breakPatternsOrdered_int_l0 : ACode :=
  (.seq (.seq (.region [
    ⟨some 26, (.move (.t 9)), none⟩,
    ⟨some 27, (.move (.t 1)), none⟩,
    ⟨some 28, (.move (.t 6)), none⟩,
    ⟨some 29, (.bin .quo (.t 28) (.c (.s (.int .i64 4)))), none⟩,
    ⟨some 30, (.bin .mul (.t 29) (.c (.s (.int .i64 2)))), none⟩,
    ⟨some 31, (.bin .add (.t 27) (.t 30)), none⟩,
    ⟨some 32, (.bin .add (.t 31) (.c (.s (.int .i64 1)))), none⟩,
    ⟨some 33, (.bin .leq (.t 26) (.t 32)), none⟩] [] [])
  (.cond (.t 33)
    .skip
    (.exit 0)))
  (.seq (.block 1
    (.seq (.region [
      ⟨some 36, (.call (.c (.fn 53 [] [])) [(.t 7)]), none⟩,
      ⟨some 37, (.move (.t 8)), none⟩,
      ⟨some 38, (.bin .sub (.t 37) (.c (.s (.int .u64 1)))), none⟩,
      ⟨some 39, (.bin .and (.t 36) (.t 38)), none⟩,
      ⟨some 40, (.conv .i64 (.t 39)), none⟩,
      ⟨some 10, (.move (.t 40)), none⟩] [] [])
    (.seq (.seq (.region [
      ⟨some 41, (.move (.t 10)), none⟩,
      ⟨some 42, (.move (.t 6)), none⟩,
      ⟨some 43, (.bin .geq (.t 41) (.t 42)), none⟩] [] [])
    (.cond (.t 43)
      (.region [
        ⟨some 44, (.move (.t 10)), none⟩,
        ⟨some 45, (.move (.t 6)), none⟩,
        ⟨some 46, (.bin .sub (.t 44) (.t 45)), none⟩,
        ⟨some 10, (.move (.t 46)), none⟩] [] [])
      .skip))
    (.region [
      ⟨some 47, (.move (.t 0)), none⟩,
      ⟨some 48, (.move (.t 9)), none⟩,
      ⟨some 49, (.move (.t 0)), none⟩,
      ⟨some 50, (.move (.t 1)), none⟩,
      ⟨some 51, (.move (.t 10)), none⟩,
      ⟨some 52, (.bin .add (.t 50) (.t 51)), none⟩,
      ⟨some 53, (.move (.t 0)), none⟩,
      ⟨some 54, (.move (.t 1)), none⟩,
      ⟨some 55, (.move (.t 10)), none⟩,
      ⟨some 56, (.bin .add (.t 54) (.t 55)), none⟩,
      ⟨some 57, (.indexAddr 1 (.t 53) (.t 56)), none⟩,
      ⟨some 58, (.load false 1 (.t 57)), none⟩,
      ⟨some 59, (.move (.t 0)), none⟩,
      ⟨some 60, (.move (.t 9)), none⟩,
      ⟨some 61, (.indexAddr 1 (.t 59) (.t 60)), none⟩,
      ⟨some 62, (.load false 1 (.t 61)), none⟩,
      ⟨some 63, (.indexAddr 1 (.t 47) (.t 48)), none⟩,
      ⟨none, (.store 1 (.t 63) (.t 58)), none⟩,
      ⟨some 64, (.indexAddr 1 (.t 49) (.t 52)), none⟩,
      ⟨none, (.store 1 (.t 64) (.t 62)), none⟩] [] []))))
  (.region [
    ⟨some 34, (.move (.t 9)), none⟩,
    ⟨some 35, (.bin .add (.t 34) (.c (.s (.int .i64 1)))), none⟩,
    ⟨some 9, (.move (.t 35)), none⟩] [] [])))
def c_slices_breakPatternsOrdered_int_k0 : List Nat := [26, 27, 28, 29, 30, 31, 32, 33, 36, 37, 38, 39, 40, 10, 41, 42, 43, 44, 45, 46, 47, 48, 49, 50, 51, 52, 53, 54, 55, 56, 57, 58, 59, 60, 61, 62, 63, 64, 34, 35]
def c_slices_breakPatternsOrdered_int : ACFun := { ntmps := 65, results := [], body :=
  (.seq (.region [
    ⟨some 11, (.move (.t 2)), none⟩,
    ⟨some 12, (.move (.t 1)), none⟩,
    ⟨some 13, (.bin .sub (.t 11) (.t 12)), none⟩,
    ⟨some 6, (.move (.t 13)), none⟩] [] [])
  (.seq (.region [
    ⟨some 14, (.move (.t 6)), none⟩,
    ⟨some 15, (.bin .geq (.t 14) (.c (.s (.int .i64 8)))), none⟩] [] [])
  (.cond (.t 15)
    (.seq (.region [
      ⟨some 16, (.move (.t 6)), none⟩,
      ⟨some 17, (.conv .u64 (.t 16)), none⟩,
      ⟨some 7, (.alloc [(.s (.int .u64 0))]), none⟩,
      ⟨none, (.store 1 (.t 7) (.t 17)), none⟩] [] [])
    (.seq (.region [
      ⟨some 18, (.move (.t 6)), none⟩,
      ⟨some 19, (.call (.c (.fn 52 [] [])) [(.t 18)]), none⟩,
      ⟨some 8, (.move (.t 19)), none⟩] [] [])
    (.seq (.region [
      ⟨some 20, (.move (.t 1)), none⟩,
      ⟨some 21, (.move (.t 6)), none⟩,
      ⟨some 22, (.bin .quo (.t 21) (.c (.s (.int .i64 4)))), none⟩,
      ⟨some 23, (.bin .mul (.t 22) (.c (.s (.int .i64 2)))), none⟩,
      ⟨some 24, (.bin .add (.t 20) (.t 23)), none⟩,
      ⟨some 25, (.bin .sub (.t 24) (.c (.s (.int .i64 1)))), none⟩,
      ⟨some 9, (.move (.t 25)), none⟩] [] [])
    (.block 0
      (.loop c_slices_breakPatternsOrdered_int_k0 c_slices_breakPatternsOrdered_int_l0)))))
    .skip))) }
/- 43 slices.choosePivotOrdered[int] -/
def c_slices_choosePivotOrdered_int : ACFun := { ntmps := 57, results := [(.tmp 6), (.tmp 7)], body :=
  (.seq (.region [
    ⟨some 6, (.move (.c (.s (.int .i64 0)))), none⟩,
    ⟨some 7, (.move (.c (.s (.int .i64 0)))), none⟩] [] [])
  (.seq (.region [
    ⟨some 13, (.move (.t 2)), none⟩,
    ⟨some 14, (.move (.t 1)), none⟩,
    ⟨some 15, (.bin .sub (.t 13) (.t 14)), none⟩,
    ⟨some 8, (.move (.t 15)), none⟩] [] [])
  (.seq (.region [
    ⟨some 9, (.alloc [(.s (.int .i64 0))]), none⟩] [] [])
  (.seq (.region [
    ⟨some 16, (.move (.t 1)), none⟩,
    ⟨some 17, (.move (.t 8)), none⟩,
    ⟨some 18, (.bin .quo (.t 17) (.c (.s (.int .i64 4)))), none⟩,
    ⟨some 19, (.bin .mul (.t 18) (.c (.s (.int .i64 1)))), none⟩,
    ⟨some 20, (.bin .add (.t 16) (.t 19)), none⟩,
    ⟨some 10, (.move (.t 20)), none⟩] [] [])
  (.seq (.region [
    ⟨some 21, (.move (.t 1)), none⟩,
    ⟨some 22, (.move (.t 8)), none⟩,
    ⟨some 23, (.bin .quo (.t 22) (.c (.s (.int .i64 4)))), none⟩,
    ⟨some 24, (.bin .mul (.t 23) (.c (.s (.int .i64 2)))), none⟩,
    ⟨some 25, (.bin .add (.t 21) (.t 24)), none⟩,
    ⟨some 11, (.move (.t 25)), none⟩] [] [])
  (.seq (.region [
    ⟨some 26, (.move (.t 1)), none⟩,
    ⟨some 27, (.move (.t 8)), none⟩,
    ⟨some 28, (.bin .quo (.t 27) (.c (.s (.int .i64 4)))), none⟩,
    ⟨some 29, (.bin .mul (.t 28) (.c (.s (.int .i64 3)))), none⟩,
    ⟨some 30, (.bin .add (.t 26) (.t 29)), none⟩,
    ⟨some 12, (.move (.t 30)), none⟩] [] [])
  (.seq (.seq (.region [
    ⟨some 31, (.move (.t 8)), none⟩,
    ⟨some 32, (.bin .geq (.t 31) (.c (.s (.int .i64 8)))), none⟩] [] [])
  (.cond (.t 32)
    (.seq (.seq (.region [
      ⟨some 33, (.move (.t 8)), none⟩,
      ⟨some 34, (.bin .geq (.t 33) (.c (.s (.int .i64 50)))), none⟩] [] [])
    (.cond (.t 34)
      (.seq (.region [
        ⟨some 35, (.move (.t 0)), none⟩,
        ⟨some 36, (.move (.t 10)), none⟩,
        ⟨some 37, (.call (.c (.fn 54 [] [])) [(.t 35), (.t 36), (.t 9)]), none⟩,
        ⟨some 10, (.move (.t 37)), none⟩] [] [])
      (.seq (.region [
        ⟨some 38, (.move (.t 0)), none⟩,
        ⟨some 39, (.move (.t 11)), none⟩,
        ⟨some 40, (.call (.c (.fn 54 [] [])) [(.t 38), (.t 39), (.t 9)]), none⟩,
        ⟨some 11, (.move (.t 40)), none⟩] [] [])
      (.region [
        ⟨some 41, (.move (.t 0)), none⟩,
        ⟨some 42, (.move (.t 12)), none⟩,
        ⟨some 43, (.call (.c (.fn 54 [] [])) [(.t 41), (.t 42), (.t 9)]), none⟩,
        ⟨some 12, (.move (.t 43)), none⟩] [] [])))
      .skip))
    (.region [
      ⟨some 44, (.move (.t 0)), none⟩,
      ⟨some 45, (.move (.t 10)), none⟩,
      ⟨some 46, (.move (.t 11)), none⟩,
      ⟨some 47, (.move (.t 12)), none⟩,
      ⟨some 48, (.call (.c (.fn 55 [] [])) [(.t 44), (.t 45), (.t 46), (.t 47), (.t 9)]), none⟩,
      ⟨some 11, (.move (.t 48)), none⟩] [] []))
    .skip))
  (.seq (.region [
    ⟨some 49, (.load false 1 (.t 9)), none⟩] [] [])
  (.block 0
    (.seq (.region [
      ⟨some 52, (.bin .eql (.t 49) (.c (.s (.int .i64 0)))), none⟩,
      ⟨some 51, (.move (.t 52)), none⟩] [] [])
    (.cond (.t 51)
      (.seq (.region [
        ⟨some 53, (.move (.t 11)), none⟩,
        ⟨some 6, (.move (.t 53)), none⟩,
        ⟨some 7, (.move (.c (.s (.int .i64 1)))), none⟩] [] [])
      .ret)
      (.seq (.region [
        ⟨some 55, (.bin .eql (.t 49) (.c (.s (.int .i64 12)))), none⟩,
        ⟨some 54, (.move (.t 55)), none⟩] [] [])
      (.cond (.t 54)
        (.seq (.region [
          ⟨some 56, (.move (.t 11)), none⟩,
          ⟨some 6, (.move (.t 56)), none⟩,
          ⟨some 7, (.move (.c (.s (.int .i64 2)))), none⟩] [] [])
        .ret)
        (.seq (.region [
          ⟨some 50, (.move (.t 11)), none⟩,
          ⟨some 6, (.move (.t 50)), none⟩,
          ⟨some 7, (.move (.c (.s (.int .i64 0)))), none⟩] [] [])
        .ret)))))))))))))) }
/- 44 slices.reverseRangeOrdered[int] -/
def c_slices_reverseRangeOrdered_int_l0 : ACode :=
  (.seq (.seq (.region [
    ⟨some 11, (.move (.t 6)), none⟩,
    ⟨some 12, (.move (.t 7)), none⟩,
    ⟨some 13, (.bin .lss (.t 11) (.t 12)), none⟩] [] [])
  (.cond (.t 13)
    .skip
    (.exit 0)))
  (.block 1
    (.seq (.region [
      ⟨some 14, (.move (.t 0)), none⟩,
      ⟨some 15, (.move (.t 6)), none⟩,
      ⟨some 16, (.move (.t 0)), none⟩,
      ⟨some 17, (.move (.t 7)), none⟩,
      ⟨some 18, (.move (.t 0)), none⟩,
      ⟨some 19, (.move (.t 7)), none⟩,
      ⟨some 20, (.indexAddr 1 (.t 18) (.t 19)), none⟩,
      ⟨some 21, (.load false 1 (.t 20)), none⟩,
      ⟨some 22, (.move (.t 0)), none⟩,
      ⟨some 23, (.move (.t 6)), none⟩,
      ⟨some 24, (.indexAddr 1 (.t 22) (.t 23)), none⟩,
      ⟨some 25, (.load false 1 (.t 24)), none⟩,
      ⟨some 26, (.indexAddr 1 (.t 14) (.t 15)), none⟩,
      ⟨none, (.store 1 (.t 26) (.t 21)), none⟩,
      ⟨some 27, (.indexAddr 1 (.t 16) (.t 17)), none⟩,
      ⟨none, (.store 1 (.t 27) (.t 25)), none⟩] [] [])
    (.seq (.region [
      ⟨some 28, (.move (.t 6)), none⟩,
      ⟨some 29, (.bin .add (.t 28) (.c (.s (.int .i64 1)))), none⟩,
      ⟨some 6, (.move (.t 29)), none⟩] [] [])
    (.region [
      ⟨some 30, (.move (.t 7)), none⟩,
      ⟨some 31, (.bin .sub (.t 30) (.c (.s (.int .i64 1)))), none⟩,
      ⟨some 7, (.move (.t 31)), none⟩] [] [])))))
def c_slices_reverseRangeOrdered_int_k0 : List Nat := [11, 12, 13, 14, 15, 16, 17, 18, 19, 20, 21, 22, 23, 24, 25, 26, 27, 28, 29, 30, 31]
def c_slices_reverseRangeOrdered_int : ACFun := { ntmps := 32, results := [], body :=
  (.seq (.region [
    ⟨some 8, (.move (.t 1)), none⟩,
    ⟨some 6, (.move (.t 8)), none⟩] [] [])
  (.seq (.region [
    ⟨some 9, (.move (.t 2)), none⟩,
    ⟨some 10, (.bin .sub (.t 9) (.c (.s (.int .i64 1)))), none⟩,
    ⟨some 7, (.move (.t 10)), none⟩] [] [])
  (.block 0
    (.loop c_slices_reverseRangeOrdered_int_k0 c_slices_reverseRangeOrdered_int_l0)))) }
/- 45 slices.partialInsertionSortOrdered[int] -/
def c_slices_partialInsertionSortOrdered_int_l0 : ACode :=
  (.seq (.seq (.region [
    ⟨some 17, (.move (.t 7)), none⟩,
    ⟨some 18, (.move (.t 2)), none⟩,
    ⟨some 19, (.bin .lss (.t 17) (.t 18)), none⟩,
    ⟨some 20, (.move (.t 19)), none⟩,
    ⟨some 21, (.move (.t 0)), some (20, true)⟩,
    ⟨some 22, (.move (.t 7)), some (20, true)⟩,
    ⟨some 23, (.indexAddr 1 (.t 21) (.t 22)), some (20, true)⟩,
    ⟨some 24, (.load false 1 (.t 23)), some (20, true)⟩,
    ⟨some 25, (.move (.t 0)), some (20, true)⟩,
    ⟨some 26, (.move (.t 7)), some (20, true)⟩,
    ⟨some 27, (.bin .sub (.t 26) (.c (.s (.int .i64 1)))), some (20, true)⟩,
    ⟨some 28, (.indexAddr 1 (.t 25) (.t 27)), some (20, true)⟩,
    ⟨some 29, (.load false 1 (.t 28)), some (20, true)⟩,
    ⟨some 30, (.call (.c (.fn 46 [] [])) [(.t 24), (.t 29)]), some (20, true)⟩,
    ⟨some 31, (.un .not (.t 30)), some (20, true)⟩,
    ⟨some 32, (.pick (.t 20) (.t 31) (.c (.s (.bool false)))), none⟩] [] [])
  (.cond (.t 32)
    .skip
    (.exit 2)))
  (.block 3
    (.region [
      ⟨some 33, (.move (.t 7)), none⟩,
      ⟨some 34, (.bin .add (.t 33) (.c (.s (.int .i64 1)))), none⟩,
      ⟨some 7, (.move (.t 34)), none⟩] [] [])))
def c_slices_partialInsertionSortOrdered_int_k0 : List Nat := [17, 18, 19, 20, 21, 22, 23, 24, 25, 26, 27, 28, 29, 30, 31, 32, 33, 34]
def c_slices_partialInsertionSortOrdered_int_l1 : ACode :=
  (.seq (.seq (.region [
    ⟨some 64, (.move (.t 9)), none⟩,
    ⟨some 65, (.bin .geq (.t 64) (.c (.s (.int .i64 1)))), none⟩] [] [])
  (.cond (.t 65)
    .skip
    (.exit 4)))
  (.seq (.block 5
    (.seq (.seq (.region [
      ⟨some 68, (.move (.t 0)), none⟩,
      ⟨some 69, (.move (.t 9)), none⟩,
      ⟨some 70, (.indexAddr 1 (.t 68) (.t 69)), none⟩,
      ⟨some 71, (.load false 1 (.t 70)), none⟩,
      ⟨some 72, (.move (.t 0)), none⟩,
      ⟨some 73, (.move (.t 9)), none⟩,
      ⟨some 74, (.bin .sub (.t 73) (.c (.s (.int .i64 1)))), none⟩,
      ⟨some 75, (.indexAddr 1 (.t 72) (.t 74)), none⟩,
      ⟨some 76, (.load false 1 (.t 75)), none⟩,
      ⟨some 77, (.call (.c (.fn 46 [] [])) [(.t 71), (.t 76)]), none⟩,
      ⟨some 78, (.un .not (.t 77)), none⟩] [] [])
    (.cond (.t 78)
      (.exit 4)
      .skip))
    (.region [
      ⟨some 79, (.move (.t 0)), none⟩,
      ⟨some 80, (.move (.t 9)), none⟩,
      ⟨some 81, (.move (.t 0)), none⟩,
      ⟨some 82, (.move (.t 9)), none⟩,
      ⟨some 83, (.bin .sub (.t 82) (.c (.s (.int .i64 1)))), none⟩,
      ⟨some 84, (.move (.t 0)), none⟩,
      ⟨some 85, (.move (.t 9)), none⟩,
      ⟨some 86, (.bin .sub (.t 85) (.c (.s (.int .i64 1)))), none⟩,
      ⟨some 87, (.indexAddr 1 (.t 84) (.t 86)), none⟩,
      ⟨some 88, (.load false 1 (.t 87)), none⟩,
      ⟨some 89, (.move (.t 0)), none⟩,
      ⟨some 90, (.move (.t 9)), none⟩,
      ⟨some 91, (.indexAddr 1 (.t 89) (.t 90)), none⟩,
      ⟨some 92, (.load false 1 (.t 91)), none⟩,
      ⟨some 93, (.indexAddr 1 (.t 79) (.t 80)), none⟩,
      ⟨none, (.store 1 (.t 93) (.t 88)), none⟩,
      ⟨some 94, (.indexAddr 1 (.t 81) (.t 83)), none⟩,
      ⟨none, (.store 1 (.t 94) (.t 92)), none⟩] [] [])))
  (.region [
    ⟨some 66, (.move (.t 9)), none⟩,
    ⟨some 67, (.bin .sub (.t 66) (.c (.s (.int .i64 1)))), none⟩,
    ⟨some 9, (.move (.t 67)), none⟩] [] [])))
def c_slices_partialInsertionSortOrdered_int_k1 : List Nat := [64, 65, 68, 69, 70, 71, 72, 73, 74, 75, 76, 77, 78, 79, 80, 81, 82, 83, 84, 85, 86, 87, 88, 89, 90, 91, 92, 93, 94, 66, 67]
def c_slices_partialInsertionSortOrdered_int_l2 : ACode :=
  (.seq (.seq (.region [
    ⟨some 101, (.move (.t 10)), none⟩,
    ⟨some 102, (.move (.t 2)), none⟩,
    ⟨some 103, (.bin .lss (.t 101) (.t 102)), none⟩] [] [])
  (.cond (.t 103)
    .skip
    (.exit 6)))
  (.seq (.block 7
    (.seq (.seq (.region [
      ⟨some 106, (.move (.t 0)), none⟩,
      ⟨some 107, (.move (.t 10)), none⟩,
      ⟨some 108, (.indexAddr 1 (.t 106) (.t 107)), none⟩,
      ⟨some 109, (.load false 1 (.t 108)), none⟩,
      ⟨some 110, (.move (.t 0)), none⟩,
      ⟨some 111, (.move (.t 10)), none⟩,
      ⟨some 112, (.bin .sub (.t 111) (.c (.s (.int .i64 1)))), none⟩,
      ⟨some 113, (.indexAddr 1 (.t 110) (.t 112)), none⟩,
      ⟨some 114, (.load false 1 (.t 113)), none⟩,
      ⟨some 115, (.call (.c (.fn 46 [] [])) [(.t 109), (.t 114)]), none⟩,
      ⟨some 116, (.un .not (.t 115)), none⟩] [] [])
    (.cond (.t 116)
      (.exit 6)
      .skip))
    (.region [
      ⟨some 117, (.move (.t 0)), none⟩,
      ⟨some 118, (.move (.t 10)), none⟩,
      ⟨some 119, (.move (.t 0)), none⟩,
      ⟨some 120, (.move (.t 10)), none⟩,
      ⟨some 121, (.bin .sub (.t 120) (.c (.s (.int .i64 1)))), none⟩,
      ⟨some 122, (.move (.t 0)), none⟩,
      ⟨some 123, (.move (.t 10)), none⟩,
      ⟨some 124, (.bin .sub (.t 123) (.c (.s (.int .i64 1)))), none⟩,
      ⟨some 125, (.indexAddr 1 (.t 122) (.t 124)), none⟩,
      ⟨some 126, (.load false 1 (.t 125)), none⟩,
      ⟨some 127, (.move (.t 0)), none⟩,
      ⟨some 128, (.move (.t 10)), none⟩,
      ⟨some 129, (.indexAddr 1 (.t 127) (.t 128)), none⟩,
      ⟨some 130, (.load false 1 (.t 129)), none⟩,
      ⟨some 131, (.indexAddr 1 (.t 117) (.t 118)), none⟩,
      ⟨none, (.store 1 (.t 131) (.t 126)), none⟩,
      ⟨some 132, (.indexAddr 1 (.t 119) (.t 121)), none⟩,
      ⟨none, (.store 1 (.t 132) (.t 130)), none⟩] [] [])))
  (.region [
    ⟨some 104, (.move (.t 10)), none⟩,
    ⟨some 105, (.bin .add (.t 104) (.c (.s (.int .i64 1)))), none⟩,
    ⟨some 10, (.move (.t 105)), none⟩] [] [])))
def c_slices_partialInsertionSortOrdered_int_k2 : List Nat := [101, 102, 103, 106, 107, 108, 109, 110, 111, 112, 113, 114, 115, 116, 117, 118, 119, 120, 121, 122, 123, 124, 125, 126, 127, 128, 129, 130, 131, 132, 104, 105]
def c_slices_partialInsertionSortOrdered_int_l3 : ACode :=
  (.seq (.seq (.region [
    ⟨some 13, (.move (.t 8)), none⟩,
    ⟨some 14, (.bin .lss (.t 13) (.c (.s (.int .i64 5)))), none⟩] [] [])
  (.cond (.t 14)
    .skip
    (.exit 0)))
  (.seq (.block 1
    (.seq (.block 2
      (.loop c_slices_partialInsertionSortOrdered_int_k0 c_slices_partialInsertionSortOrdered_int_l0))
    (.seq (.seq (.region [
      ⟨some 35, (.move (.t 7)), none⟩,
      ⟨some 36, (.move (.t 2)), none⟩,
      ⟨some 37, (.bin .eql (.t 35) (.t 36)), none⟩] [] [])
    (.cond (.t 37)
      (.seq (.region [
        ⟨some 6, (.move (.c (.s (.bool true)))), none⟩] [] [])
      .ret)
      .skip))
    (.seq (.seq (.region [
      ⟨some 38, (.move (.t 2)), none⟩,
      ⟨some 39, (.move (.t 1)), none⟩,
      ⟨some 40, (.bin .sub (.t 38) (.t 39)), none⟩,
      ⟨some 41, (.bin .lss (.t 40) (.c (.s (.int .i64 50)))), none⟩] [] [])
    (.cond (.t 41)
      (.seq (.region [
        ⟨some 6, (.move (.c (.s (.bool false)))), none⟩] [] [])
      .ret)
      .skip))
    (.seq (.region [
      ⟨some 42, (.move (.t 0)), none⟩,
      ⟨some 43, (.move (.t 7)), none⟩,
      ⟨some 44, (.move (.t 0)), none⟩,
      ⟨some 45, (.move (.t 7)), none⟩,
      ⟨some 46, (.bin .sub (.t 45) (.c (.s (.int .i64 1)))), none⟩,
      ⟨some 47, (.move (.t 0)), none⟩,
      ⟨some 48, (.move (.t 7)), none⟩,
      ⟨some 49, (.bin .sub (.t 48) (.c (.s (.int .i64 1)))), none⟩,
      ⟨some 50, (.indexAddr 1 (.t 47) (.t 49)), none⟩,
      ⟨some 51, (.load false 1 (.t 50)), none⟩,
      ⟨some 52, (.move (.t 0)), none⟩,
      ⟨some 53, (.move (.t 7)), none⟩,
      ⟨some 54, (.indexAddr 1 (.t 52) (.t 53)), none⟩,
      ⟨some 55, (.load false 1 (.t 54)), none⟩,
      ⟨some 56, (.indexAddr 1 (.t 42) (.t 43)), none⟩,
      ⟨none, (.store 1 (.t 56) (.t 51)), none⟩,
      ⟨some 57, (.indexAddr 1 (.t 44) (.t 46)), none⟩,
      ⟨none, (.store 1 (.t 57) (.t 55)), none⟩] [] [])
    (.seq (.seq (.region [
      ⟨some 58, (.move (.t 7)), none⟩,
      ⟨some 59, (.move (.t 1)), none⟩,
      ⟨some 60, (.bin .sub (.t 58) (.t 59)), none⟩,
      ⟨some 61, (.bin .geq (.t 60) (.c (.s (.int .i64 2)))), none⟩] [] [])
    (.cond (.t 61)
      (.seq (.region [
        ⟨some 62, (.move (.t 7)), none⟩,
        ⟨some 63, (.bin .sub (.t 62) (.c (.s (.int .i64 1)))), none⟩,
        ⟨some 9, (.move (.t 63)), none⟩] [] [])
      (.block 4
        (.loop c_slices_partialInsertionSortOrdered_int_k1 c_slices_partialInsertionSortOrdered_int_l1)))
      .skip))
    (.seq (.region [
      ⟨some 95, (.move (.t 2)), none⟩,
      ⟨some 96, (.move (.t 7)), none⟩,
      ⟨some 97, (.bin .sub (.t 95) (.t 96)), none⟩,
      ⟨some 98, (.bin .geq (.t 97) (.c (.s (.int .i64 2)))), none⟩] [] [])
    (.cond (.t 98)
      (.seq (.region [
        ⟨some 99, (.move (.t 7)), none⟩,
        ⟨some 100, (.bin .add (.t 99) (.c (.s (.int .i64 1)))), none⟩,
        ⟨some 10, (.move (.t 100)), none⟩] [] [])
      (.block 6
        (.loop c_slices_partialInsertionSortOrdered_int_k2 c_slices_partialInsertionSortOrdered_int_l2)))
      .skip))))))))
  (.region [
    ⟨some 15, (.move (.t 8)), none⟩,
    ⟨some 16, (.bin .add (.t 15) (.c (.s (.int .i64 1)))), none⟩,
    ⟨some 8, (.move (.t 16)), none⟩] [] [])))
def c_slices_partialInsertionSortOrdered_int_k3 : List Nat := [13, 14, 17, 18, 19, 20, 21, 22, 23, 24, 25, 26, 27, 28, 29, 30, 31, 32, 33, 34, 35, 36, 37, 38, 39, 40, 41, 42, 43, 44, 45, 46, 47, 48, 49, 50, 51, 52, 53, 54, 55, 56, 57, 58, 59, 60, 61, 62, 63, 9, 64, 65, 68, 69, 70, 71, 72, 73, 74, 75, 76, 77, 78, 79, 80, 81, 82, 83, 84, 85, 86, 87, 88, 89, 90, 91, 92, 93, 94, 66, 67, 95, 96, 97, 98, 99, 100, 10, 101, 102, 103, 106, 107, 108, 109, 110, 111, 112, 113, 114, 115, 116, 117, 118, 119, 120, 121, 122, 123, 124, 125, 126, 127, 128, 129, 130, 131, 132, 104, 105, 15, 16]
def c_slices_partialInsertionSortOrdered_int : ACFun := { ntmps := 133, results := [(.tmp 6)], body :=
  (.seq (.region [
    ⟨some 6, (.move (.c (.s (.bool false)))), none⟩] [] [])
  (.seq (.region [
    ⟨some 11, (.move (.t 1)), none⟩,
    ⟨some 12, (.bin .add (.t 11) (.c (.s (.int .i64 1)))), none⟩,
    ⟨some 7, (.move (.t 12)), none⟩] [] [])
  (.seq (.seq (.region [
    ⟨some 8, (.move (.c (.s (.int .i64 0)))), none⟩] [] [])
  (.block 0
    (.loop c_slices_partialInsertionSortOrdered_int_k3 c_slices_partialInsertionSortOrdered_int_l3)))
  (.seq (.region [
    ⟨some 6, (.move (.c (.s (.bool false)))), none⟩] [] [])
  .ret)))) }
/- 46 cmp.Less[int] -/
def c_cmp_Less_int : ACFun := { ntmps := 17, results := [(.tmp 4)], body :=
  (.seq (.region [
    ⟨some 4, (.move (.c (.s (.bool false)))), none⟩] [] [])
  (.seq (.region [
    ⟨some 5, (.move (.t 0)), none⟩,
    ⟨some 6, (.call (.c (.fn 56 [] [])) [(.t 5)]), none⟩,
    ⟨some 7, (.move (.t 6)), none⟩,
    ⟨some 8, (.move (.t 1)), some (7, true)⟩,
    ⟨some 9, (.call (.c (.fn 56 [] [])) [(.t 8)]), some (7, true)⟩,
    ⟨some 10, (.un .not (.t 9)), some (7, true)⟩,
    ⟨some 11, (.pick (.t 7) (.t 10) (.c (.s (.bool false)))), none⟩,
    ⟨some 12, (.move (.t 11)), none⟩,
    ⟨some 13, (.move (.t 0)), some (12, false)⟩,
    ⟨some 14, (.move (.t 1)), some (12, false)⟩,
    ⟨some 15, (.bin .lss (.t 13) (.t 14)), some (12, false)⟩,
    ⟨some 16, (.pick (.t 12) (.c (.s (.bool true))) (.t 15)), none⟩,
    ⟨some 4, (.move (.t 16)), none⟩] [] [])
  .ret)) }
/- 47 slices.partitionEqualOrdered[int] -/
def c_slices_partitionEqualOrdered_int_l0 : ACode :=
  (.seq (.seq (.region [
    ⟨some 29, (.move (.t 9)), none⟩,
    ⟨some 30, (.move (.t 10)), none⟩,
    ⟨some 31, (.bin .leq (.t 29) (.t 30)), none⟩,
    ⟨some 32, (.move (.t 31)), none⟩,
    ⟨some 33, (.move (.t 0)), some (32, true)⟩,
    ⟨some 34, (.move (.t 1)), some (32, true)⟩,
    ⟨some 35, (.indexAddr 1 (.t 33) (.t 34)), some (32, true)⟩,
    ⟨some 36, (.load false 1 (.t 35)), some (32, true)⟩,
    ⟨some 37, (.move (.t 0)), some (32, true)⟩,
    ⟨some 38, (.move (.t 9)), some (32, true)⟩,
    ⟨some 39, (.indexAddr 1 (.t 37) (.t 38)), some (32, true)⟩,
    ⟨some 40, (.load false 1 (.t 39)), some (32, true)⟩,
    ⟨some 41, (.call (.c (.fn 46 [] [])) [(.t 36), (.t 40)]), some (32, true)⟩,
    ⟨some 42, (.un .not (.t 41)), some (32, true)⟩,
    ⟨some 43, (.pick (.t 32) (.t 42) (.c (.s (.bool false)))), none⟩] [] [])
  (.cond (.t 43)
    .skip
    (.exit 2)))
  (.block 3
    (.region [
      ⟨some 44, (.move (.t 9)), none⟩,
      ⟨some 45, (.bin .add (.t 44) (.c (.s (.int .i64 1)))), none⟩,
      ⟨some 9, (.move (.t 45)), none⟩] [] [])))
def c_slices_partitionEqualOrdered_int_k0 : List Nat := [29, 30, 31, 32, 33, 34, 35, 36, 37, 38, 39, 40, 41, 42, 43, 44, 45]
def c_slices_partitionEqualOrdered_int_l1 : ACode :=
  (.seq (.seq (.region [
    ⟨some 46, (.move (.t 9)), none⟩,
    ⟨some 47, (.move (.t 10)), none⟩,
    ⟨some 48, (.bin .leq (.t 46) (.t 47)), none⟩,
    ⟨some 49, (.move (.t 48)), none⟩,
    ⟨some 50, (.move (.t 0)), some (49, true)⟩,
    ⟨some 51, (.move (.t 1)), some (49, true)⟩,
    ⟨some 52, (.indexAddr 1 (.t 50) (.t 51)), some (49, true)⟩,
    ⟨some 53, (.load false 1 (.t 52)), some (49, true)⟩,
    ⟨some 54, (.move (.t 0)), some (49, true)⟩,
    ⟨some 55, (.move (.t 10)), some (49, true)⟩,
    ⟨some 56, (.indexAddr 1 (.t 54) (.t 55)), some (49, true)⟩,
    ⟨some 57, (.load false 1 (.t 56)), some (49, true)⟩,
    ⟨some 58, (.call (.c (.fn 46 [] [])) [(.t 53), (.t 57)]), some (49, true)⟩,
    ⟨some 59, (.pick (.t 49) (.t 58) (.c (.s (.bool false)))), none⟩] [] [])
  (.cond (.t 59)
    .skip
    (.exit 4)))
  (.block 5
    (.region [
      ⟨some 60, (.move (.t 10)), none⟩,
      ⟨some 61, (.bin .sub (.t 60) (.c (.s (.int .i64 1)))), none⟩,
      ⟨some 10, (.move (.t 61)), none⟩] [] [])))
def c_slices_partitionEqualOrdered_int_k1 : List Nat := [46, 47, 48, 49, 50, 51, 52, 53, 54, 55, 56, 57, 58, 59, 60, 61]
def c_slices_partitionEqualOrdered_int_l2 : ACode :=
  (.block 1
    (.seq (.block 2
      (.loop c_slices_partitionEqualOrdered_int_k0 c_slices_partitionEqualOrdered_int_l0))
    (.seq (.block 4
      (.loop c_slices_partitionEqualOrdered_int_k1 c_slices_partitionEqualOrdered_int_l1))
    (.seq (.seq (.region [
      ⟨some 62, (.move (.t 9)), none⟩,
      ⟨some 63, (.move (.t 10)), none⟩,
      ⟨some 64, (.bin .gtr (.t 62) (.t 63)), none⟩] [] [])
    (.cond (.t 64)
      (.exit 0)
      .skip))
    (.seq (.region [
      ⟨some 65, (.move (.t 0)), none⟩,
      ⟨some 66, (.move (.t 9)), none⟩,
      ⟨some 67, (.move (.t 0)), none⟩,
      ⟨some 68, (.move (.t 10)), none⟩,
      ⟨some 69, (.move (.t 0)), none⟩,
      ⟨some 70, (.move (.t 10)), none⟩,
      ⟨some 71, (.indexAddr 1 (.t 69) (.t 70)), none⟩,
      ⟨some 72, (.load false 1 (.t 71)), none⟩,
      ⟨some 73, (.move (.t 0)), none⟩,
      ⟨some 74, (.move (.t 9)), none⟩,
      ⟨some 75, (.indexAddr 1 (.t 73) (.t 74)), none⟩,
      ⟨some 76, (.load false 1 (.t 75)), none⟩,
      ⟨some 77, (.indexAddr 1 (.t 65) (.t 66)), none⟩,
      ⟨none, (.store 1 (.t 77) (.t 72)), none⟩,
      ⟨some 78, (.indexAddr 1 (.t 67) (.t 68)), none⟩,
      ⟨none, (.store 1 (.t 78) (.t 76)), none⟩] [] [])
    (.seq (.region [
      ⟨some 79, (.move (.t 9)), none⟩,
      ⟨some 80, (.bin .add (.t 79) (.c (.s (.int .i64 1)))), none⟩,
      ⟨some 9, (.move (.t 80)), none⟩] [] [])
    (.region [
      ⟨some 81, (.move (.t 10)), none⟩,
      ⟨some 82, (.bin .sub (.t 81) (.c (.s (.int .i64 1)))), none⟩,
      ⟨some 10, (.move (.t 82)), none⟩] [] [])))))))
def c_slices_partitionEqualOrdered_int_k2 : List Nat := [29, 30, 31, 32, 33, 34, 35, 36, 37, 38, 39, 40, 41, 42, 43, 44, 45, 46, 47, 48, 49, 50, 51, 52, 53, 54, 55, 56, 57, 58, 59, 60, 61, 62, 63, 64, 65, 66, 67, 68, 69, 70, 71, 72, 73, 74, 75, 76, 77, 78, 79, 80, 81, 82]
def c_slices_partitionEqualOrdered_int : ACFun := { ntmps := 84, results := [(.tmp 8)], body :=
  (.seq (.region [
    ⟨some 8, (.move (.c (.s (.int .i64 0)))), none⟩] [] [])
  (.seq (.region [
    ⟨some 11, (.move (.t 0)), none⟩,
    ⟨some 12, (.move (.t 1)), none⟩,
    ⟨some 13, (.move (.t 0)), none⟩,
    ⟨some 14, (.move (.t 3)), none⟩,
    ⟨some 15, (.move (.t 0)), none⟩,
    ⟨some 16, (.move (.t 3)), none⟩,
    ⟨some 17, (.indexAddr 1 (.t 15) (.t 16)), none⟩,
    ⟨some 18, (.load false 1 (.t 17)), none⟩,
    ⟨some 19, (.move (.t 0)), none⟩,
    ⟨some 20, (.move (.t 1)), none⟩,
    ⟨some 21, (.indexAddr 1 (.t 19) (.t 20)), none⟩,
    ⟨some 22, (.load false 1 (.t 21)), none⟩,
    ⟨some 23, (.indexAddr 1 (.t 11) (.t 12)), none⟩,
    ⟨none, (.store 1 (.t 23) (.t 18)), none⟩,
    ⟨some 24, (.indexAddr 1 (.t 13) (.t 14)), none⟩,
    ⟨none, (.store 1 (.t 24) (.t 22)), none⟩] [] [])
  (.seq (.region [
    ⟨some 25, (.move (.t 1)), none⟩,
    ⟨some 26, (.bin .add (.t 25) (.c (.s (.int .i64 1)))), none⟩,
    ⟨some 27, (.move (.t 2)), none⟩,
    ⟨some 28, (.bin .sub (.t 27) (.c (.s (.int .i64 1)))), none⟩,
    ⟨some 9, (.move (.t 26)), none⟩,
    ⟨some 10, (.move (.t 28)), none⟩] [] [])
  (.seq (.block 0
    (.loop c_slices_partitionEqualOrdered_int_k2 c_slices_partitionEqualOrdered_int_l2))
  (.seq (.region [
    ⟨some 83, (.move (.t 9)), none⟩,
    ⟨some 8, (.move (.t 83)), none⟩] [] [])
  .ret))))) }
/- 48 slices.partitionOrdered[int] -/
def c_slices_partitionOrdered_int_l0 : ACode :=
  (.seq (.seq (.region [
    ⟨some 30, (.move (.t 10)), none⟩,
    ⟨some 31, (.move (.t 11)), none⟩,
    ⟨some 32, (.bin .leq (.t 30) (.t 31)), none⟩,
    ⟨some 33, (.move (.t 32)), none⟩,
    ⟨some 34, (.move (.t 0)), some (33, true)⟩,
    ⟨some 35, (.move (.t 10)), some (33, true)⟩,
    ⟨some 36, (.indexAddr 1 (.t 34) (.t 35)), some (33, true)⟩,
    ⟨some 37, (.load false 1 (.t 36)), some (33, true)⟩,
    ⟨some 38, (.move (.t 0)), some (33, true)⟩,
    ⟨some 39, (.move (.t 1)), some (33, true)⟩,
    ⟨some 40, (.indexAddr 1 (.t 38) (.t 39)), some (33, true)⟩,
    ⟨some 41, (.load false 1 (.t 40)), some (33, true)⟩,
    ⟨some 42, (.call (.c (.fn 46 [] [])) [(.t 37), (.t 41)]), some (33, true)⟩,
    ⟨some 43, (.pick (.t 33) (.t 42) (.c (.s (.bool false)))), none⟩] [] [])
  (.cond (.t 43)
    .skip
    (.exit 0)))
  (.block 1
    (.region [
      ⟨some 44, (.move (.t 10)), none⟩,
      ⟨some 45, (.bin .add (.t 44) (.c (.s (.int .i64 1)))), none⟩,
      ⟨some 10, (.move (.t 45)), none⟩] [] [])))
def c_slices_partitionOrdered_int_k0 : List Nat := [30, 31, 32, 33, 34, 35, 36, 37, 38, 39, 40, 41, 42, 43, 44, 45]
def c_slices_partitionOrdered_int_l1 : ACode :=
  (.seq (.seq (.region [
    ⟨some 46, (.move (.t 10)), none⟩,
    ⟨some 47, (.move (.t 11)), none⟩,
    ⟨some 48, (.bin .leq (.t 46) (.t 47)), none⟩,
    ⟨some 49, (.move (.t 48)), none⟩,
    ⟨some 50, (.move (.t 0)), some (49, true)⟩,
    ⟨some 51, (.move (.t 11)), some (49, true)⟩,
    ⟨some 52, (.indexAddr 1 (.t 50) (.t 51)), some (49, true)⟩,
    ⟨some 53, (.load false 1 (.t 52)), some (49, true)⟩,
    ⟨some 54, (.move (.t 0)), some (49, true)⟩,
    ⟨some 55, (.move (.t 1)), some (49, true)⟩,
    ⟨some 56, (.indexAddr 1 (.t 54) (.t 55)), some (49, true)⟩,
    ⟨some 57, (.load false 1 (.t 56)), some (49, true)⟩,
    ⟨some 58, (.call (.c (.fn 46 [] [])) [(.t 53), (.t 57)]), some (49, true)⟩,
    ⟨some 59, (.un .not (.t 58)), some (49, true)⟩,
    ⟨some 60, (.pick (.t 49) (.t 59) (.c (.s (.bool false)))), none⟩] [] [])
  (.cond (.t 60)
    .skip
    (.exit 2)))
  (.block 3
    (.region [
      ⟨some 61, (.move (.t 11)), none⟩,
      ⟨some 62, (.bin .sub (.t 61) (.c (.s (.int .i64 1)))), none⟩,
      ⟨some 11, (.move (.t 62)), none⟩] [] [])))
def c_slices_partitionOrdered_int_k1 : List Nat := [46, 47, 48, 49, 50, 51, 52, 53, 54, 55, 56, 57, 58, 59, 60, 61, 62]
def c_slices_partitionOrdered_int_l2 : ACode :=
  (.seq (.seq (.region [
    ⟨some 99, (.move (.t 10)), none⟩,
    ⟨some 100, (.move (.t 11)), none⟩,
    ⟨some 101, (.bin .leq (.t 99) (.t 100)), none⟩,
    ⟨some 102, (.move (.t 101)), none⟩,
    ⟨some 103, (.move (.t 0)), some (102, true)⟩,
    ⟨some 104, (.move (.t 10)), some (102, true)⟩,
    ⟨some 105, (.indexAddr 1 (.t 103) (.t 104)), some (102, true)⟩,
    ⟨some 106, (.load false 1 (.t 105)), some (102, true)⟩,
    ⟨some 107, (.move (.t 0)), some (102, true)⟩,
    ⟨some 108, (.move (.t 1)), some (102, true)⟩,
    ⟨some 109, (.indexAddr 1 (.t 107) (.t 108)), some (102, true)⟩,
    ⟨some 110, (.load false 1 (.t 109)), some (102, true)⟩,
    ⟨some 111, (.call (.c (.fn 46 [] [])) [(.t 106), (.t 110)]), some (102, true)⟩,
    ⟨some 112, (.pick (.t 102) (.t 111) (.c (.s (.bool false)))), none⟩] [] [])
  (.cond (.t 112)
    .skip
    (.exit 6)))
  (.block 7
    (.region [
      ⟨some 113, (.move (.t 10)), none⟩,
      ⟨some 114, (.bin .add (.t 113) (.c (.s (.int .i64 1)))), none⟩,
      ⟨some 10, (.move (.t 114)), none⟩] [] [])))
def c_slices_partitionOrdered_int_k2 : List Nat := [99, 100, 101, 102, 103, 104, 105, 106, 107, 108, 109, 110, 111, 112, 113, 114]
def c_slices_partitionOrdered_int_l3 : ACode :=
  (.seq (.seq (.region [
    ⟨some 115, (.move (.t 10)), none⟩,
    ⟨some 116, (.move (.t 11)), none⟩,
    ⟨some 117, (.bin .leq (.t 115) (.t 116)), none⟩,
    ⟨some 118, (.move (.t 117)), none⟩,
    ⟨some 119, (.move (.t 0)), some (118, true)⟩,
    ⟨some 120, (.move (.t 11)), some (118, true)⟩,
    ⟨some 121, (.indexAddr 1 (.t 119) (.t 120)), some (118, true)⟩,
    ⟨some 122, (.load false 1 (.t 121)), some (118, true)⟩,
    ⟨some 123, (.move (.t 0)), some (118, true)⟩,
    ⟨some 124, (.move (.t 1)), some (118, true)⟩,
    ⟨some 125, (.indexAddr 1 (.t 123) (.t 124)), some (118, true)⟩,
    ⟨some 126, (.load false 1 (.t 125)), some (118, true)⟩,
    ⟨some 127, (.call (.c (.fn 46 [] [])) [(.t 122), (.t 126)]), some (118, true)⟩,
    ⟨some 128, (.un .not (.t 127)), some (118, true)⟩,
    ⟨some 129, (.pick (.t 118) (.t 128) (.c (.s (.bool false)))), none⟩] [] [])
  (.cond (.t 129)
    .skip
    (.exit 8)))
  (.block 9
    (.region [
      ⟨some 130, (.move (.t 11)), none⟩,
      ⟨some 131, (.bin .sub (.t 130) (.c (.s (.int .i64 1)))), none⟩,
      ⟨some 11, (.move (.t 131)), none⟩] [] [])))
def c_slices_partitionOrdered_int_k3 : List Nat := [115, 116, 117, 118, 119, 120, 121, 122, 123, 124, 125, 126, 127, 128, 129, 130, 131]
def c_slices_partitionOrdered_int_l4 : ACode :=
  (.block 5
    (.seq (.block 6
      (.loop c_slices_partitionOrdered_int_k2 c_slices_partitionOrdered_int_l2))
    (.seq (.block 8
      (.loop c_slices_partitionOrdered_int_k3 c_slices_partitionOrdered_int_l3))
    (.seq (.seq (.region [
      ⟨some 132, (.move (.t 10)), none⟩,
      ⟨some 133, (.move (.t 11)), none⟩,
      ⟨some 134, (.bin .gtr (.t 132) (.t 133)), none⟩] [] [])
    (.cond (.t 134)
      (.exit 4)
      .skip))
    (.seq (.region [
      ⟨some 135, (.move (.t 0)), none⟩,
      ⟨some 136, (.move (.t 10)), none⟩,
      ⟨some 137, (.move (.t 0)), none⟩,
      ⟨some 138, (.move (.t 11)), none⟩,
      ⟨some 139, (.move (.t 0)), none⟩,
      ⟨some 140, (.move (.t 11)), none⟩,
      ⟨some 141, (.indexAddr 1 (.t 139) (.t 140)), none⟩,
      ⟨some 142, (.load false 1 (.t 141)), none⟩,
      ⟨some 143, (.move (.t 0)), none⟩,
      ⟨some 144, (.move (.t 10)), none⟩,
      ⟨some 145, (.indexAddr 1 (.t 143) (.t 144)), none⟩,
      ⟨some 146, (.load false 1 (.t 145)), none⟩,
      ⟨some 147, (.indexAddr 1 (.t 135) (.t 136)), none⟩,
      ⟨none, (.store 1 (.t 147) (.t 142)), none⟩,
      ⟨some 148, (.indexAddr 1 (.t 137) (.t 138)), none⟩,
      ⟨none, (.store 1 (.t 148) (.t 146)), none⟩] [] [])
    (.seq (.region [
      ⟨some 149, (.move (.t 10)), none⟩,
      ⟨some 150, (.bin .add (.t 149) (.c (.s (.int .i64 1)))), none⟩,
      ⟨some 10, (.move (.t 150)), none⟩] [] [])
    (.region [
      ⟨some 151, (.move (.t 11)), none⟩,
      ⟨some 152, (.bin .sub (.t 151) (.c (.s (.int .i64 1)))), none⟩,
      ⟨some 11, (.move (.t 152)), none⟩] [] [])))))))
def c_slices_partitionOrdered_int_k4 : List Nat := [99, 100, 101, 102, 103, 104, 105, 106, 107, 108, 109, 110, 111, 112, 113, 114, 115, 116, 117, 118, 119, 120, 121, 122, 123, 124, 125, 126, 127, 128, 129, 130, 131, 132, 133, 134, 135, 136, 137, 138, 139, 140, 141, 142, 143, 144, 145, 146, 147, 148, 149, 150, 151, 152]
def c_slices_partitionOrdered_int : ACFun := { ntmps := 168, results := [(.tmp 8), (.tmp 9)], body :=
  (.seq (.region [
    ⟨some 8, (.move (.c (.s (.int .i64 0)))), none⟩,
    ⟨some 9, (.move (.c (.s (.bool false)))), none⟩] [] [])
  (.seq (.region [
    ⟨some 12, (.move (.t 0)), none⟩,
    ⟨some 13, (.move (.t 1)), none⟩,
    ⟨some 14, (.move (.t 0)), none⟩,
    ⟨some 15, (.move (.t 3)), none⟩,
    ⟨some 16, (.move (.t 0)), none⟩,
    ⟨some 17, (.move (.t 3)), none⟩,
    ⟨some 18, (.indexAddr 1 (.t 16) (.t 17)), none⟩,
    ⟨some 19, (.load false 1 (.t 18)), none⟩,
    ⟨some 20, (.move (.t 0)), none⟩,
    ⟨some 21, (.move (.t 1)), none⟩,
    ⟨some 22, (.indexAddr 1 (.t 20) (.t 21)), none⟩,
    ⟨some 23, (.load false 1 (.t 22)), none⟩,
    ⟨some 24, (.indexAddr 1 (.t 12) (.t 13)), none⟩,
    ⟨none, (.store 1 (.t 24) (.t 19)), none⟩,
    ⟨some 25, (.indexAddr 1 (.t 14) (.t 15)), none⟩,
    ⟨none, (.store 1 (.t 25) (.t 23)), none⟩] [] [])
  (.seq (.region [
    ⟨some 26, (.move (.t 1)), none⟩,
    ⟨some 27, (.bin .add (.t 26) (.c (.s (.int .i64 1)))), none⟩,
    ⟨some 28, (.move (.t 2)), none⟩,
    ⟨some 29, (.bin .sub (.t 28) (.c (.s (.int .i64 1)))), none⟩,
    ⟨some 10, (.move (.t 27)), none⟩,
    ⟨some 11, (.move (.t 29)), none⟩] [] [])
  (.seq (.block 0
    (.loop c_slices_partitionOrdered_int_k0 c_slices_partitionOrdered_int_l0))
  (.seq (.block 2
    (.loop c_slices_partitionOrdered_int_k1 c_slices_partitionOrdered_int_l1))
  (.seq (.seq (.region [
    ⟨some 63, (.move (.t 10)), none⟩,
    ⟨some 64, (.move (.t 11)), none⟩,
    ⟨some 65, (.bin .gtr (.t 63) (.t 64)), none⟩] [] [])
  (.cond (.t 65)
    (.seq (.region [
      ⟨some 66, (.move (.t 0)), none⟩,
      ⟨some 67, (.move (.t 11)), none⟩,
      ⟨some 68, (.move (.t 0)), none⟩,
      ⟨some 69, (.move (.t 1)), none⟩,
      ⟨some 70, (.move (.t 0)), none⟩,
      ⟨some 71, (.move (.t 1)), none⟩,
      ⟨some 72, (.indexAddr 1 (.t 70) (.t 71)), none⟩,
      ⟨some 73, (.load false 1 (.t 72)), none⟩,
      ⟨some 74, (.move (.t 0)), none⟩,
      ⟨some 75, (.move (.t 11)), none⟩,
      ⟨some 76, (.indexAddr 1 (.t 74) (.t 75)), none⟩,
      ⟨some 77, (.load false 1 (.t 76)), none⟩,
      ⟨some 78, (.indexAddr 1 (.t 66) (.t 67)), none⟩,
      ⟨none, (.store 1 (.t 78) (.t 73)), none⟩,
      ⟨some 79, (.indexAddr 1 (.t 68) (.t 69)), none⟩,
      ⟨none, (.store 1 (.t 79) (.t 77)), none⟩] [] [])
    (.seq (.region [
      ⟨some 80, (.move (.t 11)), none⟩,
      ⟨some 8, (.move (.t 80)), none⟩,
      ⟨some 9, (.move (.c (.s (.bool true)))), none⟩] [] [])
    .ret))
    .skip))
  (.seq (.region [
    ⟨some 81, (.move (.t 0)), none⟩,
    ⟨some 82, (.move (.t 10)), none⟩,
    ⟨some 83, (.move (.t 0)), none⟩,
    ⟨some 84, (.move (.t 11)), none⟩,
    ⟨some 85, (.move (.t 0)), none⟩,
    ⟨some 86, (.move (.t 11)), none⟩,
    ⟨some 87, (.indexAddr 1 (.t 85) (.t 86)), none⟩,
    ⟨some 88, (.load false 1 (.t 87)), none⟩,
    ⟨some 89, (.move (.t 0)), none⟩,
    ⟨some 90, (.move (.t 10)), none⟩,
    ⟨some 91, (.indexAddr 1 (.t 89) (.t 90)), none⟩,
    ⟨some 92, (.load false 1 (.t 91)), none⟩,
    ⟨some 93, (.indexAddr 1 (.t 81) (.t 82)), none⟩,
    ⟨none, (.store 1 (.t 93) (.t 88)), none⟩,
    ⟨some 94, (.indexAddr 1 (.t 83) (.t 84)), none⟩,
    ⟨none, (.store 1 (.t 94) (.t 92)), none⟩] [] [])
  (.seq (.region [
    ⟨some 95, (.move (.t 10)), none⟩,
    ⟨some 96, (.bin .add (.t 95) (.c (.s (.int .i64 1)))), none⟩,
    ⟨some 10, (.move (.t 96)), none⟩] [] [])
  (.seq (.region [
    ⟨some 97, (.move (.t 11)), none⟩,
    ⟨some 98, (.bin .sub (.t 97) (.c (.s (.int .i64 1)))), none⟩,
    ⟨some 11, (.move (.t 98)), none⟩] [] [])
  (.seq (.block 4
    (.loop c_slices_partitionOrdered_int_k4 c_slices_partitionOrdered_int_l4))
  (.seq (.region [
    ⟨some 153, (.move (.t 0)), none⟩,
    ⟨some 154, (.move (.t 11)), none⟩,
    ⟨some 155, (.move (.t 0)), none⟩,
    ⟨some 156, (.move (.t 1)), none⟩,
    ⟨some 157, (.move (.t 0)), none⟩,
    ⟨some 158, (.move (.t 1)), none⟩,
    ⟨some 159, (.indexAddr 1 (.t 157) (.t 158)), none⟩,
    ⟨some 160, (.load false 1 (.t 159)), none⟩,
    ⟨some 161, (.move (.t 0)), none⟩,
    ⟨some 162, (.move (.t 11)), none⟩,
    ⟨some 163, (.indexAddr 1 (.t 161) (.t 162)), none⟩,
    ⟨some 164, (.load false 1 (.t 163)), none⟩,
    ⟨some 165, (.indexAddr 1 (.t 153) (.t 154)), none⟩,
    ⟨none, (.store 1 (.t 165) (.t 160)), none⟩,
    ⟨some 166, (.indexAddr 1 (.t 155) (.t 156)), none⟩,
    ⟨none, (.store 1 (.t 166) (.t 164)), none⟩] [] [])
  (.seq (.region [
    ⟨some 167, (.move (.t 11)), none⟩,
    ⟨some 8, (.move (.t 167)), none⟩,
    ⟨some 9, (.move (.c (.s (.bool false)))), none⟩] [] [])
  .ret)))))))))))) }
/- 49 math/bits.Len32 -/
def c_math_bits_Len32 : ACFun := { ntmps := 19, results := [(.tmp 2)], body :=
  (.seq (.region [
    ⟨some 2, (.move (.c (.s (.int .i64 0)))), none⟩] [] [])
  (.seq (.seq (.region [
    ⟨some 3, (.move (.t 0)), none⟩,
    ⟨some 4, (.bin .geq (.t 3) (.c (.s (.int .u32 65536)))), none⟩] [] [])
  (.cond (.t 4)
    (.seq (.region [
      ⟨some 5, (.move (.t 0)), none⟩,
      ⟨some 6, (.bin .shr (.t 5) (.c (.s (.int .u64 16)))), none⟩,
      ⟨some 0, (.move (.t 6)), none⟩] [] [])
    (.region [
      ⟨some 2, (.move (.c (.s (.int .i64 16)))), none⟩] [] []))
    .skip))
  (.seq (.seq (.region [
    ⟨some 7, (.move (.t 0)), none⟩,
    ⟨some 8, (.bin .geq (.t 7) (.c (.s (.int .u32 256)))), none⟩] [] [])
  (.cond (.t 8)
    (.seq (.region [
      ⟨some 9, (.move (.t 0)), none⟩,
      ⟨some 10, (.bin .shr (.t 9) (.c (.s (.int .u64 8)))), none⟩,
      ⟨some 0, (.move (.t 10)), none⟩] [] [])
    (.region [
      ⟨some 11, (.move (.t 2)), none⟩,
      ⟨some 12, (.bin .add (.t 11) (.c (.s (.int .i64 8)))), none⟩,
      ⟨some 2, (.move (.t 12)), none⟩] [] []))
    .skip))
  (.seq (.region [
    ⟨some 13, (.move (.t 2)), none⟩,
    ⟨some 14, (.move (.t 0)), none⟩,
    ⟨some 15, (.conv .u8 (.t 14)), none⟩,
    ⟨some 16, (.indexStr (.c (.s (.string ⟨#[0, 1, 2, 2, 3, 3, 3, 3, 4, 4, 4, 4, 4, 4, 4, 4, 5, 5, 5, 5, 5, 5, 5, 5, 5, 5, 5, 5, 5, 5, 5, 5, 6, 6, 6, 6, 6, 6, 6, 6, 6, 6, 6, 6, 6, 6, 6, 6, 6, 6, 6, 6, 6, 6, 6, 6, 6, 6, 6, 6, 6, 6, 6, 6, 7, 7, 7, 7, 7, 7, 7, 7, 7, 7, 7, 7, 7, 7, 7, 7, 7, 7, 7, 7, 7, 7, 7, 7, 7, 7, 7, 7, 7, 7, 7, 7, 7, 7, 7, 7, 7, 7, 7, 7, 7, 7, 7, 7, 7, 7, 7, 7, 7, 7, 7, 7, 7, 7, 7, 7, 7, 7, 7, 7, 7, 7, 7, 7, 8, 8, 8, 8, 8, 8, 8, 8, 8, 8, 8, 8, 8, 8, 8, 8, 8, 8, 8, 8, 8, 8, 8, 8, 8, 8, 8, 8, 8, 8, 8, 8, 8, 8, 8, 8, 8, 8, 8, 8, 8, 8, 8, 8, 8, 8, 8, 8, 8, 8, 8, 8, 8, 8, 8, 8, 8, 8, 8, 8, 8, 8, 8, 8, 8, 8, 8, 8, 8, 8, 8, 8, 8, 8, 8, 8, 8, 8, 8, 8, 8, 8, 8, 8, 8, 8, 8, 8, 8, 8, 8, 8, 8, 8, 8, 8, 8, 8, 8, 8, 8, 8, 8, 8, 8, 8, 8, 8, 8, 8, 8, 8, 8, 8, 8, 8, 8, 8, 8, 8, 8, 8, 8, 8, 8, 8, 8, 8]⟩))) (.t 15)), none⟩,
    ⟨some 17, (.conv .i64 (.t 16)), none⟩,
    ⟨some 18, (.bin .add (.t 13) (.t 17)), none⟩,
    ⟨some 2, (.move (.t 18)), none⟩] [] [])
  .ret)))) }
/- 50 math/bits.Len64 -/
def c_math_bits_Len64 : ACFun := { ntmps := 25, results := [(.tmp 2)], body :=
  (.seq (.region [
    ⟨some 2, (.move (.c (.s (.int .i64 0)))), none⟩] [] [])
  (.seq (.seq (.region [
    ⟨some 3, (.move (.t 0)), none⟩,
    ⟨some 4, (.bin .geq (.t 3) (.c (.s (.int .u64 4294967296)))), none⟩] [] [])
  (.cond (.t 4)
    (.seq (.region [
      ⟨some 5, (.move (.t 0)), none⟩,
      ⟨some 6, (.bin .shr (.t 5) (.c (.s (.int .u64 32)))), none⟩,
      ⟨some 0, (.move (.t 6)), none⟩] [] [])
    (.region [
      ⟨some 2, (.move (.c (.s (.int .i64 32)))), none⟩] [] []))
    .skip))
  (.seq (.seq (.region [
    ⟨some 7, (.move (.t 0)), none⟩,
    ⟨some 8, (.bin .geq (.t 7) (.c (.s (.int .u64 65536)))), none⟩] [] [])
  (.cond (.t 8)
    (.seq (.region [
      ⟨some 9, (.move (.t 0)), none⟩,
      ⟨some 10, (.bin .shr (.t 9) (.c (.s (.int .u64 16)))), none⟩,
      ⟨some 0, (.move (.t 10)), none⟩] [] [])
    (.region [
      ⟨some 11, (.move (.t 2)), none⟩,
      ⟨some 12, (.bin .add (.t 11) (.c (.s (.int .i64 16)))), none⟩,
      ⟨some 2, (.move (.t 12)), none⟩] [] []))
    .skip))
  (.seq (.seq (.region [
    ⟨some 13, (.move (.t 0)), none⟩,
    ⟨some 14, (.bin .geq (.t 13) (.c (.s (.int .u64 256)))), none⟩] [] [])
  (.cond (.t 14)
    (.seq (.region [
      ⟨some 15, (.move (.t 0)), none⟩,
      ⟨some 16, (.bin .shr (.t 15) (.c (.s (.int .u64 8)))), none⟩,
      ⟨some 0, (.move (.t 16)), none⟩] [] [])
    (.region [
      ⟨some 17, (.move (.t 2)), none⟩,
      ⟨some 18, (.bin .add (.t 17) (.c (.s (.int .i64 8)))), none⟩,
      ⟨some 2, (.move (.t 18)), none⟩] [] []))
    .skip))
  (.seq (.region [
    ⟨some 19, (.move (.t 2)), none⟩,
    ⟨some 20, (.move (.t 0)), none⟩,
    ⟨some 21, (.conv .u8 (.t 20)), none⟩,
    ⟨some 22, (.indexStr (.c (.s (.string ⟨#[0, 1, 2, 2, 3, 3, 3, 3, 4, 4, 4, 4, 4, 4, 4, 4, 5, 5, 5, 5, 5, 5, 5, 5, 5, 5, 5, 5, 5, 5, 5, 5, 6, 6, 6, 6, 6, 6, 6, 6, 6, 6, 6, 6, 6, 6, 6, 6, 6, 6, 6, 6, 6, 6, 6, 6, 6, 6, 6, 6, 6, 6, 6, 6, 7, 7, 7, 7, 7, 7, 7, 7, 7, 7, 7, 7, 7, 7, 7, 7, 7, 7, 7, 7, 7, 7, 7, 7, 7, 7, 7, 7, 7, 7, 7, 7, 7, 7, 7, 7, 7, 7, 7, 7, 7, 7, 7, 7, 7, 7, 7, 7, 7, 7, 7, 7, 7, 7, 7, 7, 7, 7, 7, 7, 7, 7, 7, 7, 8, 8, 8, 8, 8, 8, 8, 8, 8, 8, 8, 8, 8, 8, 8, 8, 8, 8, 8, 8, 8, 8, 8, 8, 8, 8, 8, 8, 8, 8, 8, 8, 8, 8, 8, 8, 8, 8, 8, 8, 8, 8, 8, 8, 8, 8, 8, 8, 8, 8, 8, 8, 8, 8, 8, 8, 8, 8, 8, 8, 8, 8, 8, 8, 8, 8, 8, 8, 8, 8, 8, 8, 8, 8, 8, 8, 8, 8, 8, 8, 8, 8, 8, 8, 8, 8, 8, 8, 8, 8, 8, 8, 8, 8, 8, 8, 8, 8, 8, 8, 8, 8, 8, 8, 8, 8, 8, 8, 8, 8, 8, 8, 8, 8, 8, 8, 8, 8, 8, 8, 8, 8, 8, 8, 8, 8, 8, 8]⟩))) (.t 21)), none⟩,
    ⟨some 23, (.conv .i64 (.t 22)), none⟩,
    ⟨some 24, (.bin .add (.t 19) (.t 23)), none⟩,
    ⟨some 2, (.move (.t 24)), none⟩] [] [])
  .ret))))) }
/- 51 slices.siftDownOrdered[int] -/
def c_slices_siftDownOrdered_int_l0 : ACode :=
  (.block 1
    (.seq (.region [
      ⟨some 11, (.move (.t 8)), none⟩,
      ⟨some 12, (.bin .mul (.c (.s (.int .i64 2))) (.t 11)), none⟩,
      ⟨some 13, (.bin .add (.t 12) (.c (.s (.int .i64 1)))), none⟩,
      ⟨some 9, (.move (.t 13)), none⟩] [] [])
    (.seq (.seq (.region [
      ⟨some 14, (.move (.t 9)), none⟩,
      ⟨some 15, (.move (.t 2)), none⟩,
      ⟨some 16, (.bin .geq (.t 14) (.t 15)), none⟩] [] [])
    (.cond (.t 16)
      (.exit 0)
      .skip))
    (.seq (.seq (.region [
      ⟨some 17, (.move (.t 9)), none⟩,
      ⟨some 18, (.bin .add (.t 17) (.c (.s (.int .i64 1)))), none⟩,
      ⟨some 19, (.move (.t 2)), none⟩,
      ⟨some 20, (.bin .lss (.t 18) (.t 19)), none⟩,
      ⟨some 21, (.move (.t 20)), none⟩,
      ⟨some 22, (.move (.t 0)), some (21, true)⟩,
      ⟨some 23, (.move (.t 3)), some (21, true)⟩,
      ⟨some 24, (.move (.t 9)), some (21, true)⟩,
      ⟨some 25, (.bin .add (.t 23) (.t 24)), some (21, true)⟩,
      ⟨some 26, (.indexAddr 1 (.t 22) (.t 25)), some (21, true)⟩,
      ⟨some 27, (.load false 1 (.t 26)), some (21, true)⟩,
      ⟨some 28, (.move (.t 0)), some (21, true)⟩,
      ⟨some 29, (.move (.t 3)), some (21, true)⟩,
      ⟨some 30, (.move (.t 9)), some (21, true)⟩,
      ⟨some 31, (.bin .add (.t 29) (.t 30)), some (21, true)⟩,
      ⟨some 32, (.bin .add (.t 31) (.c (.s (.int .i64 1)))), some (21, true)⟩,
      ⟨some 33, (.indexAddr 1 (.t 28) (.t 32)), some (21, true)⟩,
      ⟨some 34, (.load false 1 (.t 33)), some (21, true)⟩,
      ⟨some 35, (.call (.c (.fn 46 [] [])) [(.t 27), (.t 34)]), some (21, true)⟩,
      ⟨some 36, (.pick (.t 21) (.t 35) (.c (.s (.bool false)))), none⟩] [] [])
    (.cond (.t 36)
      (.region [
        ⟨some 37, (.move (.t 9)), none⟩,
        ⟨some 38, (.bin .add (.t 37) (.c (.s (.int .i64 1)))), none⟩,
        ⟨some 9, (.move (.t 38)), none⟩] [] [])
      .skip))
    (.seq (.seq (.region [
      ⟨some 39, (.move (.t 0)), none⟩,
      ⟨some 40, (.move (.t 3)), none⟩,
      ⟨some 41, (.move (.t 8)), none⟩,
      ⟨some 42, (.bin .add (.t 40) (.t 41)), none⟩,
      ⟨some 43, (.indexAddr 1 (.t 39) (.t 42)), none⟩,
      ⟨some 44, (.load false 1 (.t 43)), none⟩,
      ⟨some 45, (.move (.t 0)), none⟩,
      ⟨some 46, (.move (.t 3)), none⟩,
      ⟨some 47, (.move (.t 9)), none⟩,
      ⟨some 48, (.bin .add (.t 46) (.t 47)), none⟩,
      ⟨some 49, (.indexAddr 1 (.t 45) (.t 48)), none⟩,
      ⟨some 50, (.load false 1 (.t 49)), none⟩,
      ⟨some 51, (.call (.c (.fn 46 [] [])) [(.t 44), (.t 50)]), none⟩,
      ⟨some 52, (.un .not (.t 51)), none⟩] [] [])
    (.cond (.t 52)
      .ret
      .skip))
    (.seq (.region [
      ⟨some 53, (.move (.t 0)), none⟩,
      ⟨some 54, (.move (.t 3)), none⟩,
      ⟨some 55, (.move (.t 8)), none⟩,
      ⟨some 56, (.bin .add (.t 54) (.t 55)), none⟩,
      ⟨some 57, (.move (.t 0)), none⟩,
      ⟨some 58, (.move (.t 3)), none⟩,
      ⟨some 59, (.move (.t 9)), none⟩,
      ⟨some 60, (.bin .add (.t 58) (.t 59)), none⟩,
      ⟨some 61, (.move (.t 0)), none⟩,
      ⟨some 62, (.move (.t 3)), none⟩,
      ⟨some 63, (.move (.t 9)), none⟩,
      ⟨some 64, (.bin .add (.t 62) (.t 63)), none⟩,
      ⟨some 65, (.indexAddr 1 (.t 61) (.t 64)), none⟩,
      ⟨some 66, (.load false 1 (.t 65)), none⟩,
      ⟨some 67, (.move (.t 0)), none⟩,
      ⟨some 68, (.move (.t 3)), none⟩,
      ⟨some 69, (.move (.t 8)), none⟩,
      ⟨some 70, (.bin .add (.t 68) (.t 69)), none⟩,
      ⟨some 71, (.indexAddr 1 (.t 67) (.t 70)), none⟩,
      ⟨some 72, (.load false 1 (.t 71)), none⟩,
      ⟨some 73, (.indexAddr 1 (.t 53) (.t 56)), none⟩,
      ⟨none, (.store 1 (.t 73) (.t 66)), none⟩,
      ⟨some 74, (.indexAddr 1 (.t 57) (.t 60)), none⟩,
      ⟨none, (.store 1 (.t 74) (.t 72)), none⟩] [] [])
    (.region [
      ⟨some 75, (.move (.t 9)), none⟩,
      ⟨some 8, (.move (.t 75)), none⟩] [] [])))))))
def c_slices_siftDownOrdered_int_k0 : List Nat := [11, 12, 13, 9, 14, 15, 16, 17, 18, 19, 20, 21, 22, 23, 24, 25, 26, 27, 28, 29, 30, 31, 32, 33, 34, 35, 36, 37, 38, 39, 40, 41, 42, 43, 44, 45, 46, 47, 48, 49, 50, 51, 52, 53, 54, 55, 56, 57, 58, 59, 60, 61, 62, 63, 64, 65, 66, 67, 68, 69, 70, 71, 72, 73, 74, 75]
def c_slices_siftDownOrdered_int : ACFun := { ntmps := 76, results := [], body :=
  (.seq (.region [
    ⟨some 10, (.move (.t 1)), none⟩,
    ⟨some 8, (.move (.t 10)), none⟩] [] [])
  (.block 0
    (.loop c_slices_siftDownOrdered_int_k0 c_slices_siftDownOrdered_int_l0))) }
/- 52 slices.nextPowerOfTwo -/
def c_slices_nextPowerOfTwo : ACFun := { ntmps := 7, results := [(.tmp 2)], body :=
  (.seq (.region [
    ⟨some 2, (.move (.c (.s (.int .u64 0)))), none⟩] [] [])
  (.seq (.region [
    ⟨some 3, (.move (.t 0)), none⟩,
    ⟨some 4, (.conv .u64 (.t 3)), none⟩,
    ⟨some 5, (.call (.c (.fn 38 [] [])) [(.t 4)]), none⟩,
    ⟨some 6, (.bin .shl (.c (.s (.int .u64 1))) (.t 5)), none⟩,
    ⟨some 2, (.move (.t 6)), none⟩] [] [])
  .ret)) }
/- 53 (*slices.xorshift).Next -/
def c_slices_xorshift_Next : ACFun := { ntmps := 33, results := [(.tmp 2)], body :=
  (.seq (.region [
    ⟨some 2, (.move (.c (.s (.int .u64 0)))), none⟩] [] [])
  (.seq (.region [
    ⟨some 3, (.move (.t 0)), none⟩,
    ⟨some 4, (.nilCheck (.t 3)), none⟩,
    ⟨some 5, (.load false 1 (.t 4)), none⟩,
    ⟨some 6, (.move (.t 0)), none⟩,
    ⟨some 7, (.nilCheck (.t 6)), none⟩,
    ⟨some 8, (.load false 1 (.t 7)), none⟩,
    ⟨some 9, (.bin .shl (.t 8) (.c (.s (.int .u64 13)))), none⟩,
    ⟨some 10, (.bin .xor (.t 5) (.t 9)), none⟩,
    ⟨some 11, (.nilCheck (.t 3)), none⟩,
    ⟨none, (.store 1 (.t 11) (.t 10)), none⟩] [] [])
  (.seq (.region [
    ⟨some 12, (.move (.t 0)), none⟩,
    ⟨some 13, (.nilCheck (.t 12)), none⟩,
    ⟨some 14, (.load false 1 (.t 13)), none⟩,
    ⟨some 15, (.move (.t 0)), none⟩,
    ⟨some 16, (.nilCheck (.t 15)), none⟩,
    ⟨some 17, (.load false 1 (.t 16)), none⟩,
    ⟨some 18, (.bin .shr (.t 17) (.c (.s (.int .u64 7)))), none⟩,
    ⟨some 19, (.bin .xor (.t 14) (.t 18)), none⟩,
    ⟨some 20, (.nilCheck (.t 12)), none⟩,
    ⟨none, (.store 1 (.t 20) (.t 19)), none⟩] [] [])
  (.seq (.region [
    ⟨some 21, (.move (.t 0)), none⟩,
    ⟨some 22, (.nilCheck (.t 21)), none⟩,
    ⟨some 23, (.load false 1 (.t 22)), none⟩,
    ⟨some 24, (.move (.t 0)), none⟩,
    ⟨some 25, (.nilCheck (.t 24)), none⟩,
    ⟨some 26, (.load false 1 (.t 25)), none⟩,
    ⟨some 27, (.bin .shl (.t 26) (.c (.s (.int .u64 17)))), none⟩,
    ⟨some 28, (.bin .xor (.t 23) (.t 27)), none⟩,
    ⟨some 29, (.nilCheck (.t 21)), none⟩,
    ⟨none, (.store 1 (.t 29) (.t 28)), none⟩] [] [])
  (.seq (.region [
    ⟨some 30, (.move (.t 0)), none⟩,
    ⟨some 31, (.nilCheck (.t 30)), none⟩,
    ⟨some 32, (.load false 1 (.t 31)), none⟩,
    ⟨some 2, (.move (.t 32)), none⟩] [] [])
  .ret))))) }
/- 54 slices.medianAdjacentOrdered[int] -/
def c_slices_medianAdjacentOrdered_int : ACFun := { ntmps := 15, results := [(.tmp 6)], body :=
  (.seq (.region [
    ⟨some 6, (.move (.c (.s (.int .i64 0)))), none⟩] [] [])
  (.seq (.region [
    ⟨some 7, (.move (.t 0)), none⟩,
    ⟨some 8, (.move (.t 1)), none⟩,
    ⟨some 9, (.bin .sub (.t 8) (.c (.s (.int .i64 1)))), none⟩,
    ⟨some 10, (.move (.t 1)), none⟩,
    ⟨some 11, (.move (.t 1)), none⟩,
    ⟨some 12, (.bin .add (.t 11) (.c (.s (.int .i64 1)))), none⟩,
    ⟨some 13, (.move (.t 2)), none⟩,
    ⟨some 14, (.call (.c (.fn 55 [] [])) [(.t 7), (.t 9), (.t 10), (.t 12), (.t 13)]), none⟩,
    ⟨some 6, (.move (.t 14)), none⟩] [] [])
  .ret)) }
/- 55 slices.medianOrdered[int] -/
def c_slices_medianOrdered_int : ACFun := { ntmps := 36, results := [(.tmp 10)], body :=
  (.seq (.region [
    ⟨some 10, (.move (.c (.s (.int .i64 0)))), none⟩] [] [])
  (.seq (.region [
    ⟨some 12, (.move (.t 0)), none⟩,
    ⟨some 13, (.move (.t 1)), none⟩,
    ⟨some 14, (.move (.t 2)), none⟩,
    ⟨some 15, (.move (.t 4)), none⟩,
    ⟨some 16, (.call (.c (.fn 57 [] [])) [(.t 12), (.t 13), (.t 14), (.t 15)]), none⟩,
    ⟨some 11, (.move (.t 16)), none⟩,
    ⟨some 17, (.extract (.t 11) 0), none⟩,
    ⟨some 18, (.extract (.t 11) 1), none⟩,
    ⟨some 1, (.move (.t 17)), none⟩,
    ⟨some 2, (.move (.t 18)), none⟩] [] [])
  (.seq (.region [
    ⟨some 20, (.move (.t 0)), none⟩,
    ⟨some 21, (.move (.t 2)), none⟩,
    ⟨some 22, (.move (.t 3)), none⟩,
    ⟨some 23, (.move (.t 4)), none⟩,
    ⟨some 24, (.call (.c (.fn 57 [] [])) [(.t 20), (.t 21), (.t 22), (.t 23)]), none⟩,
    ⟨some 19, (.move (.t 24)), none⟩,
    ⟨some 25, (.extract (.t 19) 0), none⟩,
    ⟨some 26, (.extract (.t 19) 1), none⟩,
    ⟨some 2, (.move (.t 25)), none⟩,
    ⟨some 3, (.move (.t 26)), none⟩] [] [])
  (.seq (.region [
    ⟨some 28, (.move (.t 0)), none⟩,
    ⟨some 29, (.move (.t 1)), none⟩,
    ⟨some 30, (.move (.t 2)), none⟩,
    ⟨some 31, (.move (.t 4)), none⟩,
    ⟨some 32, (.call (.c (.fn 57 [] [])) [(.t 28), (.t 29), (.t 30), (.t 31)]), none⟩,
    ⟨some 27, (.move (.t 32)), none⟩,
    ⟨some 33, (.extract (.t 27) 0), none⟩,
    ⟨some 34, (.extract (.t 27) 1), none⟩,
    ⟨some 1, (.move (.t 33)), none⟩,
    ⟨some 2, (.move (.t 34)), none⟩] [] [])
  (.seq (.region [
    ⟨some 35, (.move (.t 2)), none⟩,
    ⟨some 10, (.move (.t 35)), none⟩] [] [])
  .ret))))) }
/- 56 cmp.isNaN[int] -/
def c_cmp_isNaN_int : ACFun := { ntmps := 6, results := [(.tmp 2)], body :=
  (.seq (.region [
    ⟨some 2, (.move (.c (.s (.bool false)))), none⟩] [] [])
  (.seq (.region [
    ⟨some 3, (.move (.t 0)), none⟩,
    ⟨some 4, (.move (.t 0)), none⟩,
    ⟨some 5, (.bin .neq (.t 3) (.t 4)), none⟩,
    ⟨some 2, (.move (.t 5)), none⟩] [] [])
  .ret)) }
/- 57 slices.order2Ordered[int] -/
def c_slices_order2Ordered_int : ACFun := { ntmps := 28, results := [(.tmp 8), (.tmp 9)], body :=
  (.seq (.region [
    ⟨some 8, (.move (.c (.s (.int .i64 0)))), none⟩,
    ⟨some 9, (.move (.c (.s (.int .i64 0)))), none⟩] [] [])
  (.seq (.seq (.region [
    ⟨some 10, (.move (.t 0)), none⟩,
    ⟨some 11, (.move (.t 2)), none⟩,
    ⟨some 12, (.indexAddr 1 (.t 10) (.t 11)), none⟩,
    ⟨some 13, (.load false 1 (.t 12)), none⟩,
    ⟨some 14, (.move (.t 0)), none⟩,
    ⟨some 15, (.move (.t 1)), none⟩,
    ⟨some 16, (.indexAddr 1 (.t 14) (.t 15)), none⟩,
    ⟨some 17, (.load false 1 (.t 16)), none⟩,
    ⟨some 18, (.call (.c (.fn 46 [] [])) [(.t 13), (.t 17)]), none⟩] [] [])
  (.cond (.t 18)
    (.seq (.region [
      ⟨some 19, (.move (.t 3)), none⟩,
      ⟨some 20, (.nilCheck (.t 19)), none⟩,
      ⟨some 21, (.load false 1 (.t 20)), none⟩,
      ⟨some 22, (.bin .add (.t 21) (.c (.s (.int .i64 1)))), none⟩,
      ⟨some 23, (.nilCheck (.t 19)), none⟩,
      ⟨none, (.store 1 (.t 23) (.t 22)), none⟩] [] [])
    (.seq (.region [
      ⟨some 24, (.move (.t 2)), none⟩,
      ⟨some 25, (.move (.t 1)), none⟩,
      ⟨some 8, (.move (.t 24)), none⟩,
      ⟨some 9, (.move (.t 25)), none⟩] [] [])
    .ret))
    .skip))
  (.seq (.region [
    ⟨some 26, (.move (.t 1)), none⟩,
    ⟨some 27, (.move (.t 2)), none⟩,
    ⟨some 8, (.move (.t 26)), none⟩,
    ⟨some 9, (.move (.t 27)), none⟩] [] [])
  .ret))) }
def CQ : Nat → Option CFun
  | 10 => some (.code c_gnomonlaw07_wakes)
  | 12 => some (.code c_graph_Norm)
  | 13 => some (.code c_graph_Back)
  | 14 => some (.code c_gnomonref07_Same)
  | 18 => some (.code c_graph_Reach)
  | 20 => some (.code c_graph_Leads)
  | 22 => some (.code c_gnomonref01_Same)
  | 23 => some (.code c_graph_Post)
  | 25 => some (.code c_gnomonlaw07_known)
  | 26 => some (.code c_slices_DeleteFunc_int_int)
  | 27 => some (.code c_slices_Clone_int_int)
  | 28 => some (.code c_graph_Norm_1)
  | 29 => some (.code c_slices_Sort_int_int)
  | 30 => some (.code c_slices_Compact_int_int)
  | 32 => some (.code c_graph_Reach_1)
  | 33 => some (.code c_slices_IndexFunc_int_int)
  | 34 => some (.code c_graph_Post_1)
  | 35 => some (.code c_slices_Reverse_int_int)
  | 37 => some (.code c_slices_pdqsortOrdered_int)
  | 38 => some (.code c_math_bits_Len)
  | 40 => some (.code c_slices_insertionSortOrdered_int)
  | 41 => some (.code c_slices_heapSortOrdered_int)
  | 42 => some (.code c_slices_breakPatternsOrdered_int)
  | 43 => some (.code c_slices_choosePivotOrdered_int)
  | 44 => some (.code c_slices_reverseRangeOrdered_int)
  | 45 => some (.code c_slices_partialInsertionSortOrdered_int)
  | 46 => some (.code c_cmp_Less_int)
  | 47 => some (.code c_slices_partitionEqualOrdered_int)
  | 48 => some (.code c_slices_partitionOrdered_int)
  | 49 => some (.code c_math_bits_Len32)
  | 50 => some (.code c_math_bits_Len64)
  | 51 => some (.code c_slices_siftDownOrdered_int)
  | 52 => some (.code c_slices_nextPowerOfTwo)
  | 53 => some (.code c_slices_xorshift_Next)
  | 54 => some (.code c_slices_medianAdjacentOrdered_int)
  | 55 => some (.code c_slices_medianOrdered_int)
  | 56 => some (.code c_cmp_isNaN_int)
  | 57 => some (.code c_slices_order2Ordered_int)
  | _ => none
theorem CQ_10 : compK Try.prog (fun _ => false) 10 = some (false, c_gnomonlaw07_wakes.ntmps, c_gnomonlaw07_wakes.results, c_gnomonlaw07_wakes.body.bare) := by kernel_rfl
theorem CQ_12 : compK Try.prog (fun _ => false) 12 = some (false, c_graph_Norm.ntmps, c_graph_Norm.results, c_graph_Norm.body.bare) := by kernel_rfl
theorem CQ_13 : compK Try.prog (fun _ => false) 13 = some (false, c_graph_Back.ntmps, c_graph_Back.results, c_graph_Back.body.bare) := by kernel_rfl
theorem CQ_14 : compK Try.prog (fun _ => false) 14 = some (false, c_gnomonref07_Same.ntmps, c_gnomonref07_Same.results, c_gnomonref07_Same.body.bare) := by kernel_rfl
theorem CQ_18 : compK Try.prog (fun _ => false) 18 = some (false, c_graph_Reach.ntmps, c_graph_Reach.results, c_graph_Reach.body.bare) := by kernel_rfl
theorem CQ_20 : compK Try.prog (fun _ => false) 20 = some (false, c_graph_Leads.ntmps, c_graph_Leads.results, c_graph_Leads.body.bare) := by kernel_rfl
theorem CQ_22 : compK Try.prog (fun _ => false) 22 = some (false, c_gnomonref01_Same.ntmps, c_gnomonref01_Same.results, c_gnomonref01_Same.body.bare) := by kernel_rfl
theorem CQ_23 : compK Try.prog (fun _ => false) 23 = some (false, c_graph_Post.ntmps, c_graph_Post.results, c_graph_Post.body.bare) := by kernel_rfl
theorem CQ_25 : compK Try.prog (fun _ => false) 25 = some (false, c_gnomonlaw07_known.ntmps, c_gnomonlaw07_known.results, c_gnomonlaw07_known.body.bare) := by kernel_rfl
theorem CQ_26 : compK Try.prog (fun _ => false) 26 = some (false, c_slices_DeleteFunc_int_int.ntmps, c_slices_DeleteFunc_int_int.results, c_slices_DeleteFunc_int_int.body.bare) := by kernel_rfl
theorem CQ_27 : compK Try.prog (fun _ => false) 27 = some (false, c_slices_Clone_int_int.ntmps, c_slices_Clone_int_int.results, c_slices_Clone_int_int.body.bare) := by kernel_rfl
theorem CQ_28 : compK Try.prog (fun _ => false) 28 = some (false, c_graph_Norm_1.ntmps, c_graph_Norm_1.results, c_graph_Norm_1.body.bare) := by kernel_rfl
theorem CQ_29 : compK Try.prog (fun _ => false) 29 = some (false, c_slices_Sort_int_int.ntmps, c_slices_Sort_int_int.results, c_slices_Sort_int_int.body.bare) := by kernel_rfl
theorem CQ_30 : compK Try.prog (fun _ => false) 30 = some (false, c_slices_Compact_int_int.ntmps, c_slices_Compact_int_int.results, c_slices_Compact_int_int.body.bare) := by kernel_rfl
theorem CQ_32 : compK Try.prog (fun _ => false) 32 = some (false, c_graph_Reach_1.ntmps, c_graph_Reach_1.results, c_graph_Reach_1.body.bare) := by kernel_rfl
theorem CQ_33 : compK Try.prog (fun _ => false) 33 = some (false, c_slices_IndexFunc_int_int.ntmps, c_slices_IndexFunc_int_int.results, c_slices_IndexFunc_int_int.body.bare) := by kernel_rfl
theorem CQ_34 : compK Try.prog (fun _ => false) 34 = some (false, c_graph_Post_1.ntmps, c_graph_Post_1.results, c_graph_Post_1.body.bare) := by kernel_rfl
theorem CQ_35 : compK Try.prog (fun _ => false) 35 = some (false, c_slices_Reverse_int_int.ntmps, c_slices_Reverse_int_int.results, c_slices_Reverse_int_int.body.bare) := by kernel_rfl
theorem CQ_37 : compK Try.prog (fun _ => false) 37 = some (false, c_slices_pdqsortOrdered_int.ntmps, c_slices_pdqsortOrdered_int.results, c_slices_pdqsortOrdered_int.body.bare) := by kernel_rfl
theorem CQ_38 : compK Try.prog (fun _ => false) 38 = some (false, c_math_bits_Len.ntmps, c_math_bits_Len.results, c_math_bits_Len.body.bare) := by kernel_rfl
theorem CQ_40 : compK Try.prog (fun _ => false) 40 = some (false, c_slices_insertionSortOrdered_int.ntmps, c_slices_insertionSortOrdered_int.results, c_slices_insertionSortOrdered_int.body.bare) := by kernel_rfl
theorem CQ_41 : compK Try.prog (fun _ => false) 41 = some (false, c_slices_heapSortOrdered_int.ntmps, c_slices_heapSortOrdered_int.results, c_slices_heapSortOrdered_int.body.bare) := by kernel_rfl
theorem CQ_42 : compK Try.prog (fun _ => false) 42 = some (false, c_slices_breakPatternsOrdered_int.ntmps, c_slices_breakPatternsOrdered_int.results, c_slices_breakPatternsOrdered_int.body.bare) := by kernel_rfl
theorem CQ_43 : compK Try.prog (fun _ => false) 43 = some (false, c_slices_choosePivotOrdered_int.ntmps, c_slices_choosePivotOrdered_int.results, c_slices_choosePivotOrdered_int.body.bare) := by kernel_rfl
theorem CQ_44 : compK Try.prog (fun _ => false) 44 = some (false, c_slices_reverseRangeOrdered_int.ntmps, c_slices_reverseRangeOrdered_int.results, c_slices_reverseRangeOrdered_int.body.bare) := by kernel_rfl
theorem CQ_45 : compK Try.prog (fun _ => false) 45 = some (false, c_slices_partialInsertionSortOrdered_int.ntmps, c_slices_partialInsertionSortOrdered_int.results, c_slices_partialInsertionSortOrdered_int.body.bare) := by kernel_rfl
theorem CQ_46 : compK Try.prog (fun _ => false) 46 = some (false, c_cmp_Less_int.ntmps, c_cmp_Less_int.results, c_cmp_Less_int.body.bare) := by kernel_rfl
theorem CQ_47 : compK Try.prog (fun _ => false) 47 = some (false, c_slices_partitionEqualOrdered_int.ntmps, c_slices_partitionEqualOrdered_int.results, c_slices_partitionEqualOrdered_int.body.bare) := by kernel_rfl
theorem CQ_48 : compK Try.prog (fun _ => false) 48 = some (false, c_slices_partitionOrdered_int.ntmps, c_slices_partitionOrdered_int.results, c_slices_partitionOrdered_int.body.bare) := by kernel_rfl
theorem CQ_49 : compK Try.prog (fun _ => false) 49 = some (false, c_math_bits_Len32.ntmps, c_math_bits_Len32.results, c_math_bits_Len32.body.bare) := by kernel_rfl
theorem CQ_50 : compK Try.prog (fun _ => false) 50 = some (false, c_math_bits_Len64.ntmps, c_math_bits_Len64.results, c_math_bits_Len64.body.bare) := by kernel_rfl
theorem CQ_51 : compK Try.prog (fun _ => false) 51 = some (false, c_slices_siftDownOrdered_int.ntmps, c_slices_siftDownOrdered_int.results, c_slices_siftDownOrdered_int.body.bare) := by kernel_rfl
theorem CQ_52 : compK Try.prog (fun _ => false) 52 = some (false, c_slices_nextPowerOfTwo.ntmps, c_slices_nextPowerOfTwo.results, c_slices_nextPowerOfTwo.body.bare) := by kernel_rfl
theorem CQ_53 : compK Try.prog (fun _ => false) 53 = some (false, c_slices_xorshift_Next.ntmps, c_slices_xorshift_Next.results, c_slices_xorshift_Next.body.bare) := by kernel_rfl
theorem CQ_54 : compK Try.prog (fun _ => false) 54 = some (false, c_slices_medianAdjacentOrdered_int.ntmps, c_slices_medianAdjacentOrdered_int.results, c_slices_medianAdjacentOrdered_int.body.bare) := by kernel_rfl
theorem CQ_55 : compK Try.prog (fun _ => false) 55 = some (false, c_slices_medianOrdered_int.ntmps, c_slices_medianOrdered_int.results, c_slices_medianOrdered_int.body.bare) := by kernel_rfl
theorem CQ_56 : compK Try.prog (fun _ => false) 56 = some (false, c_cmp_isNaN_int.ntmps, c_cmp_isNaN_int.results, c_cmp_isNaN_int.body.bare) := by kernel_rfl
theorem CQ_57 : compK Try.prog (fun _ => false) 57 = some (false, c_slices_order2Ordered_int.ntmps, c_slices_order2Ordered_int.results, c_slices_order2Ordered_int.body.bare) := by kernel_rfl
theorem CQ_ok : ∀ k c, CQ k = some c → FunOk Try.prog (fun _ => false) k c := by
  intro k c h
  unfold CQ at h
  split at h
  · cases h; exact funOk_of CQ_10
  · cases h; exact funOk_of CQ_12
  · cases h; exact funOk_of CQ_13
  · cases h; exact funOk_of CQ_14
  · cases h; exact funOk_of CQ_18
  · cases h; exact funOk_of CQ_20
  · cases h; exact funOk_of CQ_22
  · cases h; exact funOk_of CQ_23
  · cases h; exact funOk_of CQ_25
  · cases h; exact funOk_of CQ_26
  · cases h; exact funOk_of CQ_27
  · cases h; exact funOk_of CQ_28
  · cases h; exact funOk_of CQ_29
  · cases h; exact funOk_of CQ_30
  · cases h; exact funOk_of CQ_32
  · cases h; exact funOk_of CQ_33
  · cases h; exact funOk_of CQ_34
  · cases h; exact funOk_of CQ_35
  · cases h; exact funOk_of CQ_37
  · cases h; exact funOk_of CQ_38
  · cases h; exact funOk_of CQ_40
  · cases h; exact funOk_of CQ_41
  · cases h; exact funOk_of CQ_42
  · cases h; exact funOk_of CQ_43
  · cases h; exact funOk_of CQ_44
  · cases h; exact funOk_of CQ_45
  · cases h; exact funOk_of CQ_46
  · cases h; exact funOk_of CQ_47
  · cases h; exact funOk_of CQ_48
  · cases h; exact funOk_of CQ_49
  · cases h; exact funOk_of CQ_50
  · cases h; exact funOk_of CQ_51
  · cases h; exact funOk_of CQ_52
  · cases h; exact funOk_of CQ_53
  · cases h; exact funOk_of CQ_54
  · cases h; exact funOk_of CQ_55
  · cases h; exact funOk_of CQ_56
  · cases h; exact funOk_of CQ_57
  · cases h

theorem checks_true : givesE CQ 300 10 = some (bl true) := by kernel_rfl
end Go.Proofs.Ytmnlagcmpgilaaa
