/- Functions of the given program, as the machine's code. -/
import Derived.Test.YtamlbkalopefgaaRAmK
import Derived.Test.YtamlbkalopefgaaRProg
import Derived.KernelRfl
set_option linter.all false
set_option maxRecDepth 100000
namespace Go.Proofs.YtamlbkalopefgaaR
open Go.AM

/- 7 gnomon/names.Is -/
def c_names_Is_l0 : ACode :=
  (.seq (.region [
    ⟨some 20, (.bin .lss (.t 19) (.t 18)), none⟩] [] [])
  (.seq (.cond (.t 20)
    .skip
    (.exit 0))
  (.seq (.block 1
    (.seq (.region [
      ⟨some 21, (.move (.t 19)), none⟩,
      ⟨some 3, (.move (.t 21)), none⟩] [] [])
    (.seq (.region [
      ⟨some 22, (.move (.t 0)), none⟩,
      ⟨some 23, (.move (.t 3)), none⟩,
      ⟨some 24, (.indexStr (.t 22) (.t 23)), none⟩,
      ⟨some 4, (.move (.t 24)), none⟩] [] [])
    (.seq (.region [
      ⟨some 25, (.move (.t 4)), none⟩,
      ⟨some 26, (.bin .geq (.t 25) (.c (.s (.int .u8 97)))), none⟩,
      ⟨some 27, (.move (.t 26)), none⟩,
      ⟨some 28, (.move (.t 4)), some (27, true)⟩,
      ⟨some 29, (.bin .leq (.t 28) (.c (.s (.int .u8 122)))), some (27, true)⟩,
      ⟨some 30, (.pick (.t 27) (.t 29) (.c (.s (.bool false)))), none⟩,
      ⟨some 31, (.move (.t 30)), none⟩,
      ⟨some 32, (.move (.t 4)), some (31, false)⟩,
      ⟨some 33, (.bin .geq (.t 32) (.c (.s (.int .u8 65)))), some (31, false)⟩,
      ⟨some 34, (.move (.t 33)), some (31, false)⟩,
      ⟨some 35, (.move (.t 4)), some (34, true)⟩,
      ⟨some 36, (.bin .leq (.t 35) (.c (.s (.int .u8 90)))), some (34, true)⟩,
      ⟨some 37, (.pick (.t 34) (.t 36) (.c (.s (.bool false)))), some (31, false)⟩,
      ⟨some 38, (.pick (.t 31) (.c (.s (.bool true))) (.t 37)), none⟩,
      ⟨some 39, (.move (.t 38)), none⟩,
      ⟨some 40, (.move (.t 4)), some (39, false)⟩,
      ⟨some 41, (.bin .eql (.t 40) (.c (.s (.int .u8 95)))), some (39, false)⟩,
      ⟨some 42, (.pick (.t 39) (.c (.s (.bool true))) (.t 41)), none⟩,
      ⟨some 5, (.move (.t 42)), none⟩] [] [])
    (.seq (.region [
      ⟨some 43, (.move (.t 5)), none⟩,
      ⟨some 44, (.un .not (.t 43)), none⟩,
      ⟨some 45, (.move (.t 44)), none⟩,
      ⟨some 46, (.move (.t 3)), some (45, true)⟩,
      ⟨some 47, (.bin .eql (.t 46) (.c (.s (.int .i64 0)))), some (45, true)⟩,
      ⟨some 48, (.move (.t 47)), some (45, true)⟩,
      ⟨some 49, (.move (.t 4)), some (48, false)⟩,
      ⟨some 50, (.bin .lss (.t 49) (.c (.s (.int .u8 48)))), some (48, false)⟩,
      ⟨some 51, (.move (.t 50)), some (48, false)⟩,
      ⟨some 52, (.move (.t 4)), some (51, false)⟩,
      ⟨some 53, (.bin .gtr (.t 52) (.c (.s (.int .u8 57)))), some (51, false)⟩,
      ⟨some 54, (.pick (.t 51) (.c (.s (.bool true))) (.t 53)), some (48, false)⟩,
      ⟨some 55, (.move (.t 54)), some (48, false)⟩,
      ⟨some 56, (.move (.t 4)), some (55, true)⟩,
      ⟨some 57, (.bin .neq (.t 56) (.c (.s (.int .u8 46)))), some (55, true)⟩,
      ⟨some 58, (.pick (.t 55) (.t 57) (.c (.s (.bool false)))), some (48, false)⟩,
      ⟨some 59, (.pick (.t 48) (.c (.s (.bool true))) (.t 58)), some (45, true)⟩,
      ⟨some 60, (.pick (.t 45) (.t 59) (.c (.s (.bool false)))), none⟩] [] [])
    (.cond (.t 60)
      (.seq (.region [
        ⟨some 2, (.move (.c (.s (.bool false)))), none⟩] [] [])
      .ret)
      .skip))))))
  (.region [
    ⟨some 61, (.bin .add (.t 19) (.c (.s (.int .i64 1)))), none⟩,
    ⟨some 19, (.move (.t 61)), none⟩] [] []))))
def c_names_Is_k0 : List Nat := [20, 21, 3, 22, 23, 24, 4, 25, 26, 27, 28, 29, 30, 31, 32, 33, 34, 35, 36, 37, 38, 39, 40, 41, 42, 5, 43, 44, 45, 46, 47, 48, 49, 50, 51, 52, 53, 54, 55, 56, 57, 58, 59, 60, 61]
def c_names_Is : ACFun := { ntmps := 62, results := [(.tmp 2)], body :=
  (.seq (.region [
    ⟨some 2, (.move (.c (.s (.bool false)))), none⟩] [] [])
  (.seq (.seq (.region [
    ⟨some 6, (.move (.t 0)), none⟩,
    ⟨some 7, (.bin .eql (.t 6) (.c (.s (.string ⟨#[]⟩)))), none⟩,
    ⟨some 8, (.move (.t 7)), none⟩,
    ⟨some 9, (.move (.t 0)), some (8, false)⟩,
    ⟨some 10, (.lenS .p (.t 9)), some (8, false)⟩,
    ⟨some 11, (.bin .gtr (.t 10) (.c (.s (.int .i64 64)))), some (8, false)⟩,
    ⟨some 12, (.pick (.t 8) (.c (.s (.bool true))) (.t 11)), none⟩,
    ⟨some 13, (.move (.t 12)), none⟩,
    ⟨some 14, (.move (.t 0)), some (13, false)⟩,
    ⟨some 15, (.bin .eql (.t 14) (.c (.s (.string ⟨#[110, 117, 108, 108]⟩)))), some (13, false)⟩,
    ⟨some 16, (.pick (.t 13) (.c (.s (.bool true))) (.t 15)), none⟩] [] [])
  (.cond (.t 16)
    (.seq (.region [
      ⟨some 2, (.move (.c (.s (.bool false)))), none⟩] [] [])
    .ret)
    .skip))
  (.seq (.seq (.region [
    ⟨some 17, (.move (.t 0)), none⟩,
    ⟨some 18, (.lenS .p (.t 17)), none⟩,
    ⟨some 19, (.move (.c (.s (.int .i64 0)))), none⟩] [] [])
  (.block 0
    (.loop c_names_Is_k0 c_names_Is_l0)))
  (.seq (.region [
    ⟨some 2, (.move (.c (.s (.bool true)))), none⟩] [] [])
  .ret)))) }
/- 9 gnomon/gnomonlaw05.checks -/
def c_gnomonlaw05_checks : ACFun := { ntmps := 23, results := [(.tmp 0)], body :=
  (.seq (.region [
    ⟨some 0, (.move (.c (.s (.bool false)))), none⟩] [] [])
  (.seq (.region [
    ⟨some 2, (.build [(.s (.int .u8 0)), (.s (.string ⟨#[]⟩)), (.s (.string ⟨#[]⟩)), (.s (.string ⟨#[]⟩)), (.s (.int .i64 0)), (.s (.string ⟨#[]⟩)), (.s (.slice none 0 0)), (.s (.slice none 0 0))] [(0, 1), (1, 1), (2, 1), (3, 1), (4, 1), (5, 1), (6, 1), (7, 1)] [(0, (.c (.s (.int .u8 3)))), (1, (.c (.s (.string ⟨#[97]⟩))))]), none⟩,
    ⟨some 3, (.build [(.s (.int .u8 0)), (.s (.string ⟨#[]⟩)), (.s (.string ⟨#[]⟩)), (.s (.string ⟨#[]⟩)), (.s (.int .i64 0)), (.s (.string ⟨#[]⟩)), (.s (.slice none 0 0)), (.s (.slice none 0 0))] [(0, 1), (1, 1), (2, 1), (3, 1), (4, 1), (5, 1), (6, 1), (7, 1)] [(0, (.c (.s (.int .u8 5)))), (1, (.c (.s (.string ⟨#[98]⟩)))), (2, (.c (.s (.string ⟨#[99]⟩))))]), none⟩,
    ⟨some 4, (.build [(.s (.int .u8 0)), (.s (.string ⟨#[]⟩)), (.s (.string ⟨#[]⟩)), (.s (.string ⟨#[]⟩)), (.s (.int .i64 0)), (.s (.string ⟨#[]⟩)), (.s (.slice none 0 0)), (.s (.slice none 0 0))] [(0, 1), (1, 1), (2, 1), (3, 1), (4, 1), (5, 1), (6, 1), (7, 1)] [(0, (.c (.s (.int .u8 14))))]), none⟩,
    ⟨some 5, (.buildSl 8 3 [(.s (.int .u8 0)), (.s (.string ⟨#[]⟩)), (.s (.string ⟨#[]⟩)), (.s (.string ⟨#[]⟩)), (.s (.int .i64 0)), (.s (.string ⟨#[]⟩)), (.s (.slice none 0 0)), (.s (.slice none 0 0)), (.s (.int .u8 0)), (.s (.string ⟨#[]⟩)), (.s (.string ⟨#[]⟩)), (.s (.string ⟨#[]⟩)), (.s (.int .i64 0)), (.s (.string ⟨#[]⟩)), (.s (.slice none 0 0)), (.s (.slice none 0 0)), (.s (.int .u8 0)), (.s (.string ⟨#[]⟩)), (.s (.string ⟨#[]⟩)), (.s (.string ⟨#[]⟩)), (.s (.int .i64 0)), (.s (.string ⟨#[]⟩)), (.s (.slice none 0 0)), (.s (.slice none 0 0))] [(0, (.t 2)), (1, (.t 3)), (2, (.t 4))]), none⟩,
    ⟨some 6, (.build [(.s (.string ⟨#[]⟩)), (.s (.slice none 0 0))] [(0, 1), (1, 1)] [(0, (.c (.s (.string ⟨#[108]⟩)))), (1, (.t 5))]), none⟩,
    ⟨some 7, (.buildSl 2 1 [(.s (.string ⟨#[]⟩)), (.s (.slice none 0 0))] [(0, (.t 6))]), none⟩,
    ⟨some 8, (.build [(.s (.string ⟨#[]⟩)), (.s (.slice none 0 0)), (.s (.slice none 0 0))] [(0, 1), (1, 1), (2, 1)] [(0, (.c (.s (.string ⟨#[109, 97, 105, 110]⟩)))), (2, (.t 7))]), none⟩,
    ⟨some 9, (.buildSl 3 1 [(.s (.string ⟨#[]⟩)), (.s (.slice none 0 0)), (.s (.slice none 0 0))] [(0, (.t 8))]), none⟩,
    ⟨some 10, (.build [(.s (.slice none 0 0))] [(0, 1)] [(0, (.t 9))]), none⟩,
    ⟨some 1, (.alloc [(.s (.slice none 0 0))]), none⟩,
    ⟨none, (.store 1 (.t 1) (.t 10)), none⟩] [] [])
  (.seq (.region [
    ⟨some 11, (.load true 1 (.t 1)), none⟩,
    ⟨some 12, (.call (.c (.fn 11 [] [])) [(.t 11)]), none⟩,
    ⟨some 13, (.build [(.s (.int .i64 0)), (.s (.int .i64 0)), (.s (.int .i64 0))] [(0, 1), (1, 1), (2, 1)] [(2, (.c (.s (.int .i64 1))))]), none⟩,
    ⟨some 14, (.build [(.s (.int .u8 0)), (.s (.int .i64 0)), (.s (.int .i64 0)), (.s (.int .i64 0))] [(0, 1), (1, 3)] [(0, (.c (.s (.int .u8 16)))), (1, (.t 13))]), none⟩,
    ⟨some 15, (.eqAgg false [(.int .u8), (.int .i64), (.int .i64), (.int .i64)] (.t 12) (.t 14)), none⟩,
    ⟨some 16, (.move (.t 15)), none⟩,
    ⟨some 17, (.call (.c (.fn 7 [] [])) [(.c (.s (.string ⟨#[97, 46, 49]⟩)))]), some (16, true)⟩,
    ⟨some 18, (.pick (.t 16) (.t 17) (.c (.s (.bool false)))), none⟩,
    ⟨some 19, (.move (.t 18)), none⟩,
    ⟨some 20, (.call (.c (.fn 7 [] [])) [(.c (.s (.string ⟨#[110, 117, 108, 108]⟩)))]), some (19, true)⟩,
    ⟨some 21, (.un .not (.t 20)), some (19, true)⟩,
    ⟨some 22, (.pick (.t 19) (.t 21) (.c (.s (.bool false)))), none⟩,
    ⟨some 0, (.move (.t 22)), none⟩] [] [])
  .ret))) }
/- 11 gnomon/names.Check -/
def c_names_Check_l0 : ACode :=
  (.seq (.seq (.region [
    ⟨some 6, (.move (.t 3)), none⟩,
    ⟨some 7, (.bin .leq (.t 6) (.c (.s (.int .u8 16)))), none⟩] [] [])
  (.cond (.t 7)
    .skip
    (.exit 0)))
  (.seq (.block 1
    (.seq (.region [
      ⟨some 11, (.load true 1 (.t 1)), none⟩,
      ⟨some 12, (.move (.t 3)), none⟩,
      ⟨some 13, (.call (.c (.fn 12 [] [])) [(.t 11), (.t 12)]), none⟩,
      ⟨some 10, (.move (.t 13)), none⟩,
      ⟨some 14, (.extract (.t 10) 0), none⟩,
      ⟨some 15, (.extract (.t 10) 1), none⟩,
      ⟨some 4, (.alloc [(.s (.int .i64 0)), (.s (.int .i64 0)), (.s (.int .i64 0))]), none⟩,
      ⟨none, (.store 3 (.t 4) (.t 14)), none⟩,
      ⟨some 5, (.move (.t 15)), none⟩] [] [])
    (.seq (.region [
      ⟨some 16, (.move (.t 5)), none⟩] [] [])
    (.cond (.t 16)
      (.seq (.region [
        ⟨some 17, (.move (.t 3)), none⟩,
        ⟨some 18, (.load true 3 (.t 4)), none⟩,
        ⟨some 19, (.build [(.s (.int .u8 0)), (.s (.int .i64 0)), (.s (.int .i64 0)), (.s (.int .i64 0))] [(0, 1), (1, 3)] [(0, (.t 17)), (1, (.t 18))]), none⟩,
        ⟨none, (.store 4 (.t 2) (.t 19)), none⟩] [] [])
      .ret)
      .skip))))
  (.region [
    ⟨some 8, (.move (.t 3)), none⟩,
    ⟨some 9, (.bin .add (.t 8) (.c (.s (.int .u8 1)))), none⟩,
    ⟨some 3, (.move (.t 9)), none⟩] [] [])))
def c_names_Check_k0 : List Nat := [6, 7, 11, 12, 13, 10, 14, 15, 4, 5, 16, 17, 18, 19, 8, 9]
def c_names_Check : ACFun := { ntmps := 21, results := [(.cell 2 true 4)], body :=
  (.seq (.region [
    ⟨some 1, (.box (.t 0)), none⟩,
    ⟨some 2, (.alloc [(.s (.int .u8 0)), (.s (.int .i64 0)), (.s (.int .i64 0)), (.s (.int .i64 0))]), none⟩] [] [])
  (.seq (.seq (.region [
    ⟨some 3, (.move (.c (.s (.int .u8 1)))), none⟩] [] [])
  (.block 0
    (.loop c_names_Check_k0 c_names_Check_l0)))
  (.seq (.region [
    ⟨some 20, (.build [(.s (.int .u8 0)), (.s (.int .i64 0)), (.s (.int .i64 0)), (.s (.int .i64 0))] [(0, 1), (1, 3)] []), none⟩,
    ⟨none, (.store 4 (.t 2) (.t 20)), none⟩] [] [])
  .ret))) }
/- 12 gnomon/names.First -/
def c_names_First : ACFun := { ntmps := 55, results := [(.cell 4 true 3), (.tmp 5)], body :=
  (.seq (.region [
    ⟨some 2, (.box (.t 0)), none⟩,
    ⟨some 4, (.alloc [(.s (.int .i64 0)), (.s (.int .i64 0)), (.s (.int .i64 0))]), none⟩,
    ⟨some 5, (.move (.c (.s (.bool false)))), none⟩] [] [])
  (.seq (.region [
    ⟨some 8, (.load true 1 (.t 2)), none⟩,
    ⟨some 9, (.callR (.c (.fn 21 [] [])) []), none⟩,
    ⟨some 10, (.build [(.s (.slice none 0 0)), (.s (.map none))] [(0, 1), (1, 1)] [(0, (.t 8)), (1, (.t 9))]), none⟩,
    ⟨some 11, (.box (.t 10)), none⟩,
    ⟨some 6, (.move (.t 11)), none⟩] [] [])
  (.seq (.region [
    ⟨some 12, .mapNew, none⟩,
    ⟨some 13, (.move (.t 6)), none⟩,
    ⟨some 14, (.mkFn 22 [(.t 13)] []), none⟩,
    ⟨none, (.mapUpd (.int .u8) (.t 12) (.c (.s (.int .u8 1))) (.t 14)), none⟩,
    ⟨some 15, (.move (.t 6)), none⟩,
    ⟨some 16, (.mkFn 23 [(.t 15)] []), none⟩,
    ⟨none, (.mapUpd (.int .u8) (.t 12) (.c (.s (.int .u8 2))) (.t 16)), none⟩,
    ⟨some 17, (.move (.t 6)), none⟩,
    ⟨some 18, (.mkFn 24 [(.t 17)] []), none⟩,
    ⟨none, (.mapUpd (.int .u8) (.t 12) (.c (.s (.int .u8 3))) (.t 18)), none⟩,
    ⟨some 19, (.move (.t 6)), none⟩,
    ⟨some 20, (.mkFn 25 [(.t 19)] []), none⟩,
    ⟨none, (.mapUpd (.int .u8) (.t 12) (.c (.s (.int .u8 4))) (.t 20)), none⟩,
    ⟨some 21, (.move (.t 6)), none⟩,
    ⟨some 22, (.mkFn 26 [(.t 21)] []), none⟩,
    ⟨none, (.mapUpd (.int .u8) (.t 12) (.c (.s (.int .u8 5))) (.t 22)), none⟩,
    ⟨some 23, (.move (.t 6)), none⟩,
    ⟨some 24, (.mkFn 27 [(.t 23)] []), none⟩,
    ⟨none, (.mapUpd (.int .u8) (.t 12) (.c (.s (.int .u8 6))) (.t 24)), none⟩,
    ⟨some 25, (.move (.t 6)), none⟩,
    ⟨some 26, (.mkFn 28 [(.t 25)] []), none⟩,
    ⟨none, (.mapUpd (.int .u8) (.t 12) (.c (.s (.int .u8 7))) (.t 26)), none⟩,
    ⟨some 27, (.move (.t 6)), none⟩,
    ⟨some 28, (.mkFn 29 [(.t 27)] []), none⟩,
    ⟨none, (.mapUpd (.int .u8) (.t 12) (.c (.s (.int .u8 8))) (.t 28)), none⟩,
    ⟨some 29, (.move (.t 6)), none⟩,
    ⟨some 30, (.mkFn 30 [(.t 29)] []), none⟩,
    ⟨none, (.mapUpd (.int .u8) (.t 12) (.c (.s (.int .u8 9))) (.t 30)), none⟩,
    ⟨some 31, (.move (.t 6)), none⟩,
    ⟨some 32, (.mkFn 31 [(.t 31)] []), none⟩,
    ⟨none, (.mapUpd (.int .u8) (.t 12) (.c (.s (.int .u8 10))) (.t 32)), none⟩,
    ⟨some 33, (.move (.t 6)), none⟩,
    ⟨some 34, (.mkFn 32 [(.t 33)] []), none⟩,
    ⟨none, (.mapUpd (.int .u8) (.t 12) (.c (.s (.int .u8 11))) (.t 34)), none⟩,
    ⟨some 35, (.move (.t 6)), none⟩,
    ⟨some 36, (.mkFn 33 [(.t 35)] []), none⟩,
    ⟨none, (.mapUpd (.int .u8) (.t 12) (.c (.s (.int .u8 12))) (.t 36)), none⟩,
    ⟨some 37, (.move (.t 6)), none⟩,
    ⟨some 38, (.mkFn 34 [(.t 37)] []), none⟩,
    ⟨none, (.mapUpd (.int .u8) (.t 12) (.c (.s (.int .u8 13))) (.t 38)), none⟩,
    ⟨some 39, (.move (.t 6)), none⟩,
    ⟨some 40, (.mkFn 35 [(.t 39)] []), none⟩,
    ⟨none, (.mapUpd (.int .u8) (.t 12) (.c (.s (.int .u8 14))) (.t 40)), none⟩,
    ⟨some 41, (.move (.t 6)), none⟩,
    ⟨some 42, (.mkFn 36 [(.t 41)] []), none⟩,
    ⟨none, (.mapUpd (.int .u8) (.t 12) (.c (.s (.int .u8 15))) (.t 42)), none⟩,
    ⟨some 43, (.move (.t 6)), none⟩,
    ⟨some 44, (.mkFn 37 [(.t 43)] []), none⟩,
    ⟨none, (.mapUpd (.int .u8) (.t 12) (.c (.s (.int .u8 16))) (.t 44)), none⟩,
    ⟨some 45, (.move (.t 12)), none⟩,
    ⟨some 46, (.move (.t 1)), none⟩,
    ⟨some 47, (.mapGet (.int .u8) (.s .nilFunc) (.t 45) (.t 46) false), none⟩,
    ⟨some 7, (.move (.t 47)), none⟩] [] [])
  (.seq (.seq (.region [
    ⟨some 48, (.move (.t 7)), none⟩,
    ⟨some 49, (.eqNil .f false (.t 48)), none⟩] [] [])
  (.cond (.t 49)
    (.seq (.region [
      ⟨some 50, (.build [(.s (.int .i64 0)), (.s (.int .i64 0)), (.s (.int .i64 0))] [(0, 1), (1, 1), (2, 1)] []), none⟩,
      ⟨none, (.store 3 (.t 4) (.t 50)), none⟩,
      ⟨some 5, (.move (.c (.s (.bool false)))), none⟩] [] [])
    .ret)
    .skip))
  (.seq (.region [
    ⟨some 51, (.move (.t 7)), none⟩,
    ⟨some 52, (.call (.t 51) []), none⟩,
    ⟨some 53, (.extract (.t 52) 0), none⟩,
    ⟨some 54, (.extract (.t 52) 1), none⟩,
    ⟨none, (.store 3 (.t 4) (.t 53)), none⟩,
    ⟨some 5, (.move (.t 54)), none⟩] [] [])
  .ret))))) }
/- 21 gnomon/names.shapes -/
def c_names_shapes : ACFun := { ntmps := 17, results := [(.tmp 0)], body :=
  (.seq (.region [
    ⟨some 0, (.move (.c (.s (.map none)))), none⟩] [] [])
  (.seq (.region [
    ⟨some 1, .mapNew, none⟩,
    ⟨some 2, (.build [(.s (.bool false)), (.s (.bool false)), (.s (.bool false)), (.s (.bool false)), (.s (.bool false)), (.s (.bool false)), (.s (.bool false))] [(0, 1), (1, 1), (2, 1), (3, 1), (4, 1), (5, 1), (6, 1)] [(0, (.c (.s (.bool true)))), (3, (.c (.s (.bool true))))]), none⟩,
    ⟨none, (.mapUpd (.int .u8) (.t 1) (.c (.s (.int .u8 1))) (.t 2)), none⟩,
    ⟨some 3, (.build [(.s (.bool false)), (.s (.bool false)), (.s (.bool false)), (.s (.bool false)), (.s (.bool false)), (.s (.bool false)), (.s (.bool false))] [(0, 1), (1, 1), (2, 1), (3, 1), (4, 1), (5, 1), (6, 1)] [(0, (.c (.s (.bool true)))), (3, (.c (.s (.bool true))))]), none⟩,
    ⟨none, (.mapUpd (.int .u8) (.t 1) (.c (.s (.int .u8 2))) (.t 3)), none⟩,
    ⟨some 4, (.build [(.s (.bool false)), (.s (.bool false)), (.s (.bool false)), (.s (.bool false)), (.s (.bool false)), (.s (.bool false)), (.s (.bool false))] [(0, 1), (1, 1), (2, 1), (3, 1), (4, 1), (5, 1), (6, 1)] [(0, (.c (.s (.bool true))))]), none⟩,
    ⟨none, (.mapUpd (.int .u8) (.t 1) (.c (.s (.int .u8 3))) (.t 4)), none⟩,
    ⟨some 5, (.build [(.s (.bool false)), (.s (.bool false)), (.s (.bool false)), (.s (.bool false)), (.s (.bool false)), (.s (.bool false)), (.s (.bool false))] [(0, 1), (1, 1), (2, 1), (3, 1), (4, 1), (5, 1), (6, 1)] [(0, (.c (.s (.bool true)))), (4, (.c (.s (.bool true))))]), none⟩,
    ⟨none, (.mapUpd (.int .u8) (.t 1) (.c (.s (.int .u8 4))) (.t 5)), none⟩,
    ⟨some 6, (.build [(.s (.bool false)), (.s (.bool false)), (.s (.bool false)), (.s (.bool false)), (.s (.bool false)), (.s (.bool false)), (.s (.bool false))] [(0, 1), (1, 1), (2, 1), (3, 1), (4, 1), (5, 1), (6, 1)] [(0, (.c (.s (.bool true)))), (1, (.c (.s (.bool true))))]), none⟩,
    ⟨none, (.mapUpd (.int .u8) (.t 1) (.c (.s (.int .u8 5))) (.t 6)), none⟩,
    ⟨some 7, (.build [(.s (.bool false)), (.s (.bool false)), (.s (.bool false)), (.s (.bool false)), (.s (.bool false)), (.s (.bool false)), (.s (.bool false))] [(0, 1), (1, 1), (2, 1), (3, 1), (4, 1), (5, 1), (6, 1)] [(0, (.c (.s (.bool true)))), (1, (.c (.s (.bool true))))]), none⟩,
    ⟨none, (.mapUpd (.int .u8) (.t 1) (.c (.s (.int .u8 8))) (.t 7)), none⟩,
    ⟨some 8, (.build [(.s (.bool false)), (.s (.bool false)), (.s (.bool false)), (.s (.bool false)), (.s (.bool false)), (.s (.bool false)), (.s (.bool false))] [(0, 1), (1, 1), (2, 1), (3, 1), (4, 1), (5, 1), (6, 1)] [(0, (.c (.s (.bool true)))), (5, (.c (.s (.bool true)))), (6, (.c (.s (.bool true))))]), none⟩,
    ⟨none, (.mapUpd (.int .u8) (.t 1) (.c (.s (.int .u8 6))) (.t 8)), none⟩,
    ⟨some 9, (.build [(.s (.bool false)), (.s (.bool false)), (.s (.bool false)), (.s (.bool false)), (.s (.bool false)), (.s (.bool false)), (.s (.bool false))] [(0, 1), (1, 1), (2, 1), (3, 1), (4, 1), (5, 1), (6, 1)] [(0, (.c (.s (.bool true)))), (1, (.c (.s (.bool true)))), (3, (.c (.s (.bool true))))]), none⟩,
    ⟨none, (.mapUpd (.int .u8) (.t 1) (.c (.s (.int .u8 7))) (.t 9)), none⟩,
    ⟨some 10, (.build [(.s (.bool false)), (.s (.bool false)), (.s (.bool false)), (.s (.bool false)), (.s (.bool false)), (.s (.bool false)), (.s (.bool false))] [(0, 1), (1, 1), (2, 1), (3, 1), (4, 1), (5, 1), (6, 1)] [(1, (.c (.s (.bool true)))), (2, (.c (.s (.bool true))))]), none⟩,
    ⟨none, (.mapUpd (.int .u8) (.t 1) (.c (.s (.int .u8 9))) (.t 10)), none⟩,
    ⟨some 11, (.build [(.s (.bool false)), (.s (.bool false)), (.s (.bool false)), (.s (.bool false)), (.s (.bool false)), (.s (.bool false)), (.s (.bool false))] [(0, 1), (1, 1), (2, 1), (3, 1), (4, 1), (5, 1), (6, 1)] [(0, (.c (.s (.bool true)))), (4, (.c (.s (.bool true)))), (5, (.c (.s (.bool true))))]), none⟩,
    ⟨none, (.mapUpd (.int .u8) (.t 1) (.c (.s (.int .u8 10))) (.t 11)), none⟩,
    ⟨some 12, (.build [(.s (.bool false)), (.s (.bool false)), (.s (.bool false)), (.s (.bool false)), (.s (.bool false)), (.s (.bool false)), (.s (.bool false))] [(0, 1), (1, 1), (2, 1), (3, 1), (4, 1), (5, 1), (6, 1)] [(0, (.c (.s (.bool true)))), (1, (.c (.s (.bool true)))), (5, (.c (.s (.bool true))))]), none⟩,
    ⟨none, (.mapUpd (.int .u8) (.t 1) (.c (.s (.int .u8 11))) (.t 12)), none⟩,
    ⟨some 13, (.build [(.s (.bool false)), (.s (.bool false)), (.s (.bool false)), (.s (.bool false)), (.s (.bool false)), (.s (.bool false)), (.s (.bool false))] [(0, 1), (1, 1), (2, 1), (3, 1), (4, 1), (5, 1), (6, 1)] [(6, (.c (.s (.bool true))))]), none⟩,
    ⟨none, (.mapUpd (.int .u8) (.t 1) (.c (.s (.int .u8 12))) (.t 13)), none⟩,
    ⟨some 14, (.build [(.s (.bool false)), (.s (.bool false)), (.s (.bool false)), (.s (.bool false)), (.s (.bool false)), (.s (.bool false)), (.s (.bool false))] [(0, 1), (1, 1), (2, 1), (3, 1), (4, 1), (5, 1), (6, 1)] [(6, (.c (.s (.bool true))))]), none⟩,
    ⟨none, (.mapUpd (.int .u8) (.t 1) (.c (.s (.int .u8 13))) (.t 14)), none⟩,
    ⟨some 15, (.build [(.s (.bool false)), (.s (.bool false)), (.s (.bool false)), (.s (.bool false)), (.s (.bool false)), (.s (.bool false)), (.s (.bool false))] [(0, 1), (1, 1), (2, 1), (3, 1), (4, 1), (5, 1), (6, 1)] [(1, (.c (.s (.bool true))))]), none⟩,
    ⟨none, (.mapUpd (.int .u8) (.t 1) (.c (.s (.int .u8 14))) (.t 15)), none⟩,
    ⟨some 16, (.move (.t 1)), none⟩,
    ⟨some 0, (.move (.t 16)), none⟩] [] [])
  .ret)) }
/- 22 (*gnomon/names.walk).manyFuncs -/
def c_names_walk_manyFuncs : ACFun := { ntmps := 21, results := [(.cell 2 true 3), (.tmp 3)], body :=
  (.seq (.region [
    ⟨some 2, (.alloc [(.s (.int .i64 0)), (.s (.int .i64 0)), (.s (.int .i64 0))]), none⟩,
    ⟨some 3, (.move (.c (.s (.bool false)))), none⟩] [] [])
  (.seq (.region [
    ⟨some 4, (.build [(.s (.int .i64 0)), (.s (.int .i64 0)), (.s (.int .i64 0))] [(0, 1), (1, 1), (2, 1)] []), none⟩,
    ⟨some 5, (.move (.t 0)), none⟩,
    ⟨some 6, (.nilCheck (.t 5)), none⟩,
    ⟨some 7, (.fieldAddr 0 (.t 6)), none⟩,
    ⟨some 8, (.fieldAddr 0 (.t 7)), none⟩,
    ⟨some 9, (.load false 1 (.t 8)), none⟩,
    ⟨some 10, (.lenS .s (.t 9)), none⟩,
    ⟨some 11, (.bin .eql (.t 10) (.c (.s (.int .i64 0)))), none⟩,
    ⟨some 12, (.move (.t 11)), none⟩,
    ⟨some 13, (.move (.t 0)), some (12, false)⟩,
    ⟨some 14, (.nilCheck (.t 13)), some (12, false)⟩,
    ⟨some 15, (.fieldAddr 0 (.t 14)), some (12, false)⟩,
    ⟨some 16, (.fieldAddr 0 (.t 15)), some (12, false)⟩,
    ⟨some 17, (.load false 1 (.t 16)), some (12, false)⟩,
    ⟨some 18, (.lenS .s (.t 17)), some (12, false)⟩,
    ⟨some 19, (.bin .gtr (.t 18) (.c (.s (.int .i64 64)))), some (12, false)⟩,
    ⟨some 20, (.pick (.t 12) (.c (.s (.bool true))) (.t 19)), none⟩,
    ⟨none, (.store 3 (.t 2) (.t 4)), none⟩,
    ⟨some 3, (.move (.t 20)), none⟩] [(13, 17), (14, 17)] [])
  .ret)) }
/- 23 (*gnomon/names.walk).badName -/
def c_names_walk_badName_l0 : ACode :=
  (.seq (.region [
    ⟨some 53, (.bin .lss (.t 52) (.t 51)), none⟩] [] [])
  (.seq (.cond (.t 53)
    .skip
    (.exit 4))
  (.seq (.block 5
    (.seq (.region [
      ⟨some 54, (.move (.t 52)), none⟩,
      ⟨some 55, (.indexAddr 8 (.t 50) (.t 52)), none⟩,
      ⟨some 56, (.load true 8 (.t 55)), none⟩,
      ⟨some 9, (.alloc [(.s (.int .u8 0)), (.s (.string ⟨#[]⟩)), (.s (.string ⟨#[]⟩)), (.s (.string ⟨#[]⟩)), (.s (.int .i64 0)), (.s (.string ⟨#[]⟩)), (.s (.slice none 0 0)), (.s (.slice none 0 0))]), none⟩,
      ⟨some 8, (.move (.t 54)), none⟩,
      ⟨none, (.store 8 (.t 9) (.t 56)), none⟩] [] [])
    (.seq (.region [
      ⟨some 57, (.move (.t 0)), none⟩,
      ⟨some 58, (.nilCheck (.t 57)), none⟩,
      ⟨some 59, (.fieldAddr 1 (.t 58)), none⟩,
      ⟨some 60, (.load false 1 (.t 59)), none⟩,
      ⟨some 61, (.fieldAddr 0 (.t 9)), none⟩,
      ⟨some 62, (.load false 1 (.t 61)), none⟩,
      ⟨some 63, (.mapGet (.int .u8) (.agg [(.s (.bool false)), (.s (.bool false)), (.s (.bool false)), (.s (.bool false)), (.s (.bool false)), (.s (.bool false)), (.s (.bool false))]) (.t 60) (.t 62) false), none⟩,
      ⟨some 10, (.alloc [(.s (.bool false)), (.s (.bool false)), (.s (.bool false)), (.s (.bool false)), (.s (.bool false)), (.s (.bool false)), (.s (.bool false))]), none⟩,
      ⟨none, (.store 7 (.t 10) (.t 63)), none⟩] [] [])
    (.seq (.region [
      ⟨some 64, (.fieldAddr 0 (.t 10)), none⟩,
      ⟨some 65, (.load false 1 (.t 64)), none⟩,
      ⟨some 66, (.move (.t 65)), none⟩,
      ⟨some 67, (.fieldAddr 1 (.t 9)), some (66, true)⟩,
      ⟨some 68, (.load false 1 (.t 67)), some (66, true)⟩,
      ⟨some 69, (.buildSl 1 1 [(.s (.string ⟨#[]⟩))] [(0, (.t 68))]), some (66, true)⟩,
      ⟨some 70, (.call (.c (.fn 41 [] [])) [(.c (.s (.bool false))), (.t 69)]), some (66, true)⟩,
      ⟨some 71, (.pick (.t 66) (.t 70) (.c (.s (.bool false)))), none⟩,
      ⟨some 72, (.move (.t 71)), none⟩,
      ⟨some 73, (.fieldAddr 4 (.t 10)), some (72, false)⟩,
      ⟨some 74, (.load false 1 (.t 73)), some (72, false)⟩,
      ⟨some 75, (.move (.t 74)), some (72, false)⟩,
      ⟨some 76, (.fieldAddr 5 (.t 9)), some (75, true)⟩,
      ⟨some 77, (.load false 1 (.t 76)), some (75, true)⟩,
      ⟨some 78, (.buildSl 1 1 [(.s (.string ⟨#[]⟩))] [(0, (.t 77))]), some (75, true)⟩,
      ⟨some 79, (.call (.c (.fn 41 [] [])) [(.c (.s (.bool false))), (.t 78)]), some (75, true)⟩,
      ⟨some 80, (.pick (.t 75) (.t 79) (.c (.s (.bool false)))), some (72, false)⟩,
      ⟨some 81, (.pick (.t 72) (.c (.s (.bool true))) (.t 80)), none⟩,
      ⟨some 82, (.move (.t 81)), none⟩,
      ⟨some 83, (.fieldAddr 1 (.t 10)), some (82, false)⟩,
      ⟨some 84, (.load false 1 (.t 83)), some (82, false)⟩,
      ⟨some 85, (.move (.t 84)), some (82, false)⟩,
      ⟨some 86, (.fieldAddr 2 (.t 9)), some (85, true)⟩,
      ⟨some 87, (.load false 1 (.t 86)), some (85, true)⟩,
      ⟨some 88, (.buildSl 1 1 [(.s (.string ⟨#[]⟩))] [(0, (.t 87))]), some (85, true)⟩,
      ⟨some 89, (.call (.c (.fn 41 [] [])) [(.c (.s (.bool true))), (.t 88)]), some (85, true)⟩,
      ⟨some 90, (.pick (.t 85) (.t 89) (.c (.s (.bool false)))), some (82, false)⟩,
      ⟨some 91, (.pick (.t 82) (.c (.s (.bool true))) (.t 90)), none⟩,
      ⟨some 92, (.move (.t 91)), none⟩,
      ⟨some 93, (.fieldAddr 2 (.t 10)), some (92, false)⟩,
      ⟨some 94, (.load false 1 (.t 93)), some (92, false)⟩,
      ⟨some 95, (.move (.t 94)), some (92, false)⟩,
      ⟨some 96, (.fieldAddr 3 (.t 9)), some (95, true)⟩,
      ⟨some 97, (.load false 1 (.t 96)), some (95, true)⟩,
      ⟨some 98, (.buildSl 1 1 [(.s (.string ⟨#[]⟩))] [(0, (.t 97))]), some (95, true)⟩,
      ⟨some 99, (.call (.c (.fn 41 [] [])) [(.c (.s (.bool true))), (.t 98)]), some (95, true)⟩,
      ⟨some 100, (.pick (.t 95) (.t 99) (.c (.s (.bool false)))), some (92, false)⟩,
      ⟨some 101, (.pick (.t 92) (.c (.s (.bool true))) (.t 100)), none⟩,
      ⟨some 11, (.move (.t 101)), none⟩] [] [])
    (.seq (.region [
      ⟨some 102, (.move (.t 11)), none⟩,
      ⟨some 103, (.move (.t 102)), none⟩,
      ⟨some 104, (.fieldAddr 5 (.t 10)), some (103, false)⟩,
      ⟨some 105, (.load false 1 (.t 104)), some (103, false)⟩,
      ⟨some 106, (.move (.t 105)), some (103, false)⟩,
      ⟨some 107, (.fieldAddr 6 (.t 9)), some (106, true)⟩,
      ⟨some 108, (.load false 1 (.t 107)), some (106, true)⟩,
      ⟨some 109, (.call (.c (.fn 41 [] [])) [(.c (.s (.bool true))), (.t 108)]), some (106, true)⟩,
      ⟨some 110, (.move (.t 109)), some (106, true)⟩,
      ⟨some 111, (.fieldAddr 6 (.t 9)), some (110, false)⟩,
      ⟨some 112, (.load false 1 (.t 111)), some (110, false)⟩,
      ⟨some 113, (.call (.c (.fn 42 [] [])) [(.t 112), (.c (.s (.string ⟨#[]⟩)))]), some (110, false)⟩,
      ⟨some 114, (.pick (.t 110) (.c (.s (.bool true))) (.t 113)), some (106, true)⟩,
      ⟨some 115, (.pick (.t 106) (.t 114) (.c (.s (.bool false)))), some (103, false)⟩,
      ⟨some 116, (.pick (.t 103) (.c (.s (.bool true))) (.t 115)), none⟩,
      ⟨some 117, (.move (.t 116)), none⟩,
      ⟨some 118, (.fieldAddr 6 (.t 10)), some (117, false)⟩,
      ⟨some 119, (.load false 1 (.t 118)), some (117, false)⟩,
      ⟨some 120, (.move (.t 119)), some (117, false)⟩,
      ⟨some 121, (.fieldAddr 7 (.t 9)), some (120, true)⟩,
      ⟨some 122, (.load false 1 (.t 121)), some (120, true)⟩,
      ⟨some 123, (.call (.c (.fn 41 [] [])) [(.c (.s (.bool false))), (.t 122)]), some (120, true)⟩,
      ⟨some 124, (.move (.t 123)), some (120, true)⟩,
      ⟨some 125, (.fieldAddr 7 (.t 9)), some (124, false)⟩,
      ⟨some 126, (.load false 1 (.t 125)), some (124, false)⟩,
      ⟨some 127, (.call (.c (.fn 42 [] [])) [(.t 126), (.c (.s (.string ⟨#[]⟩)))]), some (124, false)⟩,
      ⟨some 128, (.pick (.t 124) (.c (.s (.bool true))) (.t 127)), some (120, true)⟩,
      ⟨some 129, (.pick (.t 120) (.t 128) (.c (.s (.bool false)))), some (117, false)⟩,
      ⟨some 130, (.pick (.t 117) (.c (.s (.bool true))) (.t 129)), none⟩,
      ⟨some 11, (.move (.t 130)), none⟩] [] [])
    (.seq (.region [
      ⟨some 131, (.move (.t 11)), none⟩] [] [])
    (.cond (.t 131)
      (.seq (.region [
        ⟨some 132, (.move (.t 4)), none⟩,
        ⟨some 133, (.move (.t 6)), none⟩,
        ⟨some 134, (.move (.t 8)), none⟩,
        ⟨some 135, (.build [(.s (.int .i64 0)), (.s (.int .i64 0)), (.s (.int .i64 0))] [(0, 1), (1, 1), (2, 1)] [(0, (.t 132)), (1, (.t 133)), (2, (.t 134))]), none⟩,
        ⟨none, (.store 3 (.t 2) (.t 135)), none⟩,
        ⟨some 3, (.move (.c (.s (.bool true)))), none⟩] [] [])
      .ret)
      .skip)))))))
  (.region [
    ⟨some 136, (.bin .add (.t 52) (.c (.s (.int .i64 1)))), none⟩,
    ⟨some 52, (.move (.t 136)), none⟩] [] []))))
def c_names_walk_badName_k0 : List Nat := [53, 54, 55, 56, 9, 8, 57, 58, 59, 60, 61, 62, 63, 10, 64, 65, 66, 67, 68, 69, 70, 71, 72, 73, 74, 75, 76, 77, 78, 79, 80, 81, 82, 83, 84, 85, 86, 87, 88, 89, 90, 91, 92, 93, 94, 95, 96, 97, 98, 99, 100, 101, 11, 102, 103, 104, 105, 106, 107, 108, 109, 110, 111, 112, 113, 114, 115, 116, 117, 118, 119, 120, 121, 122, 123, 124, 125, 126, 127, 128, 129, 130, 131, 132, 133, 134, 135, 136]
def c_names_walk_badName_l1 : ACode :=
  (.seq (.region [
    ⟨some 38, (.bin .lss (.t 37) (.t 36)), none⟩] [] [])
  (.seq (.cond (.t 38)
    .skip
    (.exit 2))
  (.seq (.block 3
    (.seq (.region [
      ⟨some 39, (.move (.t 37)), none⟩,
      ⟨some 40, (.indexAddr 2 (.t 35) (.t 37)), none⟩,
      ⟨some 41, (.load true 2 (.t 40)), none⟩,
      ⟨some 7, (.alloc [(.s (.string ⟨#[]⟩)), (.s (.slice none 0 0))]), none⟩,
      ⟨some 6, (.move (.t 39)), none⟩,
      ⟨none, (.store 2 (.t 7) (.t 41)), none⟩] [] [])
    (.seq (.seq (.region [
      ⟨some 42, (.fieldAddr 0 (.t 7)), none⟩,
      ⟨some 43, (.load false 1 (.t 42)), none⟩,
      ⟨some 44, (.call (.c (.fn 7 [] [])) [(.t 43)]), none⟩,
      ⟨some 45, (.un .not (.t 44)), none⟩] [] [])
    (.cond (.t 45)
      (.seq (.region [
        ⟨some 46, (.move (.t 4)), none⟩,
        ⟨some 47, (.move (.t 6)), none⟩,
        ⟨some 48, (.build [(.s (.int .i64 0)), (.s (.int .i64 0)), (.s (.int .i64 0))] [(0, 1), (1, 1), (2, 1)] [(0, (.t 46)), (1, (.t 47))]), none⟩,
        ⟨none, (.store 3 (.t 2) (.t 48)), none⟩,
        ⟨some 3, (.move (.c (.s (.bool true)))), none⟩] [] [])
      .ret)
      .skip))
    (.seq (.region [
      ⟨some 49, (.fieldAddr 1 (.t 7)), none⟩,
      ⟨some 50, (.load false 1 (.t 49)), none⟩,
      ⟨some 51, (.lenS .s (.t 50)), none⟩,
      ⟨some 52, (.move (.c (.s (.int .i64 0)))), none⟩] [] [])
    (.block 4
      (.loop c_names_walk_badName_k0 c_names_walk_badName_l0))))))
  (.region [
    ⟨some 137, (.bin .add (.t 37) (.c (.s (.int .i64 1)))), none⟩,
    ⟨some 37, (.move (.t 137)), none⟩] [] []))))
def c_names_walk_badName_k1 : List Nat := [38, 39, 40, 41, 7, 6, 42, 43, 44, 45, 46, 47, 48, 49, 50, 51, 52, 53, 54, 55, 56, 9, 8, 57, 58, 59, 60, 61, 62, 63, 10, 64, 65, 66, 67, 68, 69, 70, 71, 72, 73, 74, 75, 76, 77, 78, 79, 80, 81, 82, 83, 84, 85, 86, 87, 88, 89, 90, 91, 92, 93, 94, 95, 96, 97, 98, 99, 100, 101, 11, 102, 103, 104, 105, 106, 107, 108, 109, 110, 111, 112, 113, 114, 115, 116, 117, 118, 119, 120, 121, 122, 123, 124, 125, 126, 127, 128, 129, 130, 131, 132, 133, 134, 135, 136, 137]
def c_names_walk_badName_l2 : ACode :=
  (.seq (.region [
    ⟨some 19, (.bin .lss (.t 18) (.t 17)), none⟩] [] [])
  (.seq (.cond (.t 19)
    .skip
    (.exit 0))
  (.seq (.block 1
    (.seq (.region [
      ⟨some 20, (.move (.t 18)), none⟩,
      ⟨some 21, (.indexAddr 3 (.t 16) (.t 18)), none⟩,
      ⟨some 22, (.load true 3 (.t 21)), none⟩,
      ⟨some 5, (.alloc [(.s (.string ⟨#[]⟩)), (.s (.slice none 0 0)), (.s (.slice none 0 0))]), none⟩,
      ⟨some 4, (.move (.t 20)), none⟩,
      ⟨none, (.store 3 (.t 5) (.t 22)), none⟩] [] [])
    (.seq (.seq (.region [
      ⟨some 23, (.fieldAddr 0 (.t 5)), none⟩,
      ⟨some 24, (.load false 1 (.t 23)), none⟩,
      ⟨some 25, (.call (.c (.fn 7 [] [])) [(.t 24)]), none⟩,
      ⟨some 26, (.un .not (.t 25)), none⟩,
      ⟨some 27, (.move (.t 26)), none⟩,
      ⟨some 28, (.fieldAddr 1 (.t 5)), some (27, false)⟩,
      ⟨some 29, (.load false 1 (.t 28)), some (27, false)⟩,
      ⟨some 30, (.call (.c (.fn 39 [] [])) [(.t 29), (.c (.fn 40 [] []))]), some (27, false)⟩,
      ⟨some 31, (.pick (.t 27) (.c (.s (.bool true))) (.t 30)), none⟩] [] [])
    (.cond (.t 31)
      (.seq (.region [
        ⟨some 32, (.move (.t 4)), none⟩,
        ⟨some 33, (.build [(.s (.int .i64 0)), (.s (.int .i64 0)), (.s (.int .i64 0))] [(0, 1), (1, 1), (2, 1)] [(0, (.t 32))]), none⟩,
        ⟨none, (.store 3 (.t 2) (.t 33)), none⟩,
        ⟨some 3, (.move (.c (.s (.bool true)))), none⟩] [] [])
      .ret)
      .skip))
    (.seq (.region [
      ⟨some 34, (.fieldAddr 2 (.t 5)), none⟩,
      ⟨some 35, (.load false 1 (.t 34)), none⟩,
      ⟨some 36, (.lenS .s (.t 35)), none⟩,
      ⟨some 37, (.move (.c (.s (.int .i64 0)))), none⟩] [] [])
    (.block 2
      (.loop c_names_walk_badName_k1 c_names_walk_badName_l1))))))
  (.region [
    ⟨some 138, (.bin .add (.t 18) (.c (.s (.int .i64 1)))), none⟩,
    ⟨some 18, (.move (.t 138)), none⟩] [] []))))
def c_names_walk_badName_k2 : List Nat := [19, 20, 21, 22, 5, 4, 23, 24, 25, 26, 27, 28, 29, 30, 31, 32, 33, 34, 35, 36, 37, 38, 39, 40, 41, 7, 6, 42, 43, 44, 45, 46, 47, 48, 49, 50, 51, 52, 53, 54, 55, 56, 9, 8, 57, 58, 59, 60, 61, 62, 63, 10, 64, 65, 66, 67, 68, 69, 70, 71, 72, 73, 74, 75, 76, 77, 78, 79, 80, 81, 82, 83, 84, 85, 86, 87, 88, 89, 90, 91, 92, 93, 94, 95, 96, 97, 98, 99, 100, 101, 11, 102, 103, 104, 105, 106, 107, 108, 109, 110, 111, 112, 113, 114, 115, 116, 117, 118, 119, 120, 121, 122, 123, 124, 125, 126, 127, 128, 129, 130, 131, 132, 133, 134, 135, 136, 137, 138]
def c_names_walk_badName : ACFun := { ntmps := 140, results := [(.cell 2 true 3), (.tmp 3)], body :=
  (.seq (.region [
    ⟨some 2, (.alloc [(.s (.int .i64 0)), (.s (.int .i64 0)), (.s (.int .i64 0))]), none⟩,
    ⟨some 3, (.move (.c (.s (.bool false)))), none⟩] [] [])
  (.seq (.seq (.region [
    ⟨some 12, (.move (.t 0)), none⟩,
    ⟨some 13, (.nilCheck (.t 12)), none⟩,
    ⟨some 14, (.fieldAddr 0 (.t 13)), none⟩,
    ⟨some 15, (.fieldAddr 0 (.t 14)), none⟩,
    ⟨some 16, (.load false 1 (.t 15)), none⟩,
    ⟨some 17, (.lenS .s (.t 16)), none⟩,
    ⟨some 18, (.move (.c (.s (.int .i64 0)))), none⟩] [] [])
  (.block 0
    (.loop c_names_walk_badName_k2 c_names_walk_badName_l2)))
  (.seq (.region [
    ⟨some 139, (.build [(.s (.int .i64 0)), (.s (.int .i64 0)), (.s (.int .i64 0))] [(0, 1), (1, 1), (2, 1)] []), none⟩,
    ⟨none, (.store 3 (.t 2) (.t 139)), none⟩,
    ⟨some 3, (.move (.c (.s (.bool false)))), none⟩] [] [])
  .ret))) }
/- 24 (*gnomon/names.walk).twiceFunc -/
def c_names_walk_twiceFunc : ACFun := { ntmps := 11, results := [(.cell 2 true 3), (.tmp 3)], body :=
  (.seq (.region [
    ⟨some 2, (.alloc [(.s (.int .i64 0)), (.s (.int .i64 0)), (.s (.int .i64 0))]), none⟩,
    ⟨some 3, (.move (.c (.s (.bool false)))), none⟩] [] [])
  (.seq (.region [
    ⟨some 5, .mapNew, none⟩,
    ⟨some 4, (.alloc [(.s (.map none))]), none⟩,
    ⟨none, (.store 1 (.t 4) (.t 5)), none⟩] [] [])
  (.seq (.region [
    ⟨some 6, (.move (.t 0)), none⟩,
    ⟨some 7, (.mkFn 44 [] [(.t 4)]), none⟩,
    ⟨some 8, (.call (.c (.fn 43 [] [])) [(.t 6), (.t 7)]), none⟩,
    ⟨some 9, (.extract (.t 8) 0), none⟩,
    ⟨some 10, (.extract (.t 8) 1), none⟩,
    ⟨none, (.store 3 (.t 2) (.t 9)), none⟩,
    ⟨some 3, (.move (.t 10)), none⟩] [] [])
  .ret))) }
/- 25 (*gnomon/names.walk).noMain -/
def c_names_walk_noMain : ACFun := { ntmps := 24, results := [(.cell 2 true 3), (.tmp 3)], body :=
  (.seq (.region [
    ⟨some 2, (.alloc [(.s (.int .i64 0)), (.s (.int .i64 0)), (.s (.int .i64 0))]), none⟩,
    ⟨some 3, (.move (.c (.s (.bool false)))), none⟩] [] [])
  (.seq (.region [
    ⟨some 5, (.move (.t 0)), none⟩,
    ⟨some 6, (.call (.c (.fn 45 [] [])) [(.t 5), (.c (.s (.string ⟨#[109, 97, 105, 110]⟩)))]), none⟩,
    ⟨some 4, (.move (.t 6)), none⟩] [] [])
  (.seq (.seq (.region [
    ⟨some 7, (.move (.t 4)), none⟩,
    ⟨some 8, (.bin .lss (.t 7) (.c (.s (.int .i64 0)))), none⟩] [] [])
  (.cond (.t 8)
    (.seq (.region [
      ⟨some 9, (.build [(.s (.int .i64 0)), (.s (.int .i64 0)), (.s (.int .i64 0))] [(0, 1), (1, 1), (2, 1)] []), none⟩,
      ⟨none, (.store 3 (.t 2) (.t 9)), none⟩,
      ⟨some 3, (.move (.c (.s (.bool true)))), none⟩] [] [])
    .ret)
    .skip))
  (.seq (.seq (.region [
    ⟨some 10, (.move (.t 0)), none⟩,
    ⟨some 11, (.nilCheck (.t 10)), none⟩,
    ⟨some 12, (.fieldAddr 0 (.t 11)), none⟩,
    ⟨some 13, (.fieldAddr 0 (.t 12)), none⟩,
    ⟨some 14, (.load false 1 (.t 13)), none⟩,
    ⟨some 15, (.move (.t 4)), none⟩,
    ⟨some 16, (.indexAddr 3 (.t 14) (.t 15)), none⟩,
    ⟨some 17, (.fieldAddr 1 (.t 16)), none⟩,
    ⟨some 18, (.load false 1 (.t 17)), none⟩,
    ⟨some 19, (.lenS .s (.t 18)), none⟩,
    ⟨some 20, (.bin .gtr (.t 19) (.c (.s (.int .i64 0)))), none⟩] [] [])
  (.cond (.t 20)
    (.seq (.region [
      ⟨some 21, (.move (.t 4)), none⟩,
      ⟨some 22, (.build [(.s (.int .i64 0)), (.s (.int .i64 0)), (.s (.int .i64 0))] [(0, 1), (1, 1), (2, 1)] [(0, (.t 21))]), none⟩,
      ⟨none, (.store 3 (.t 2) (.t 22)), none⟩,
      ⟨some 3, (.move (.c (.s (.bool true)))), none⟩] [] [])
    .ret)
    .skip))
  (.seq (.region [
    ⟨some 23, (.build [(.s (.int .i64 0)), (.s (.int .i64 0)), (.s (.int .i64 0))] [(0, 1), (1, 1), (2, 1)] []), none⟩,
    ⟨none, (.store 3 (.t 2) (.t 23)), none⟩,
    ⟨some 3, (.move (.c (.s (.bool false)))), none⟩] [] [])
  .ret))))) }
/- 26 (*gnomon/names.walk).manyParams -/
def c_names_walk_manyParams_l0 : ACode :=
  (.seq (.region [
    ⟨some 39, (.bin .lss (.t 38) (.t 37)), none⟩] [] [])
  (.seq (.cond (.t 39)
    .skip
    (.exit 4))
  (.seq (.block 5
    (.seq (.region [
      ⟨some 40, (.move (.t 38)), none⟩,
      ⟨some 41, (.indexAddr 8 (.t 36) (.t 38)), none⟩,
      ⟨some 42, (.load true 8 (.t 41)), none⟩,
      ⟨some 9, (.alloc [(.s (.int .u8 0)), (.s (.string ⟨#[]⟩)), (.s (.string ⟨#[]⟩)), (.s (.string ⟨#[]⟩)), (.s (.int .i64 0)), (.s (.string ⟨#[]⟩)), (.s (.slice none 0 0)), (.s (.slice none 0 0))]), none⟩,
      ⟨some 8, (.move (.t 40)), none⟩,
      ⟨none, (.store 8 (.t 9) (.t 42)), none⟩] [] [])
    (.seq (.region [
      ⟨some 43, (.fieldAddr 0 (.t 9)), none⟩,
      ⟨some 44, (.load false 1 (.t 43)), none⟩,
      ⟨some 45, (.call (.c (.fn 46 [] [])) [(.t 44)]), none⟩,
      ⟨some 46, (.move (.t 45)), none⟩,
      ⟨some 47, (.fieldAddr 6 (.t 9)), some (46, true)⟩,
      ⟨some 48, (.load false 1 (.t 47)), some (46, true)⟩,
      ⟨some 49, (.lenS .s (.t 48)), some (46, true)⟩,
      ⟨some 50, (.bin .gtr (.t 49) (.c (.s (.int .i64 8)))), some (46, true)⟩,
      ⟨some 51, (.pick (.t 46) (.t 50) (.c (.s (.bool false)))), none⟩] [] [])
    (.cond (.t 51)
      (.seq (.region [
        ⟨some 52, (.move (.t 4)), none⟩,
        ⟨some 53, (.move (.t 6)), none⟩,
        ⟨some 54, (.move (.t 8)), none⟩,
        ⟨some 55, (.build [(.s (.int .i64 0)), (.s (.int .i64 0)), (.s (.int .i64 0))] [(0, 1), (1, 1), (2, 1)] [(0, (.t 52)), (1, (.t 53)), (2, (.t 54))]), none⟩,
        ⟨none, (.store 3 (.t 2) (.t 55)), none⟩,
        ⟨some 3, (.move (.c (.s (.bool true)))), none⟩] [] [])
      .ret)
      .skip))))
  (.region [
    ⟨some 56, (.bin .add (.t 38) (.c (.s (.int .i64 1)))), none⟩,
    ⟨some 38, (.move (.t 56)), none⟩] [] []))))
def c_names_walk_manyParams_k0 : List Nat := [39, 40, 41, 42, 9, 8, 43, 44, 45, 46, 47, 48, 49, 50, 51, 52, 53, 54, 55, 56]
def c_names_walk_manyParams_l1 : ACode :=
  (.seq (.region [
    ⟨some 31, (.bin .lss (.t 30) (.t 29)), none⟩] [] [])
  (.seq (.cond (.t 31)
    .skip
    (.exit 2))
  (.seq (.block 3
    (.seq (.region [
      ⟨some 32, (.move (.t 30)), none⟩,
      ⟨some 33, (.indexAddr 2 (.t 28) (.t 30)), none⟩,
      ⟨some 34, (.load true 2 (.t 33)), none⟩,
      ⟨some 7, (.alloc [(.s (.string ⟨#[]⟩)), (.s (.slice none 0 0))]), none⟩,
      ⟨some 6, (.move (.t 32)), none⟩,
      ⟨none, (.store 2 (.t 7) (.t 34)), none⟩] [] [])
    (.seq (.region [
      ⟨some 35, (.fieldAddr 1 (.t 7)), none⟩,
      ⟨some 36, (.load false 1 (.t 35)), none⟩,
      ⟨some 37, (.lenS .s (.t 36)), none⟩,
      ⟨some 38, (.move (.c (.s (.int .i64 0)))), none⟩] [] [])
    (.block 4
      (.loop c_names_walk_manyParams_k0 c_names_walk_manyParams_l0)))))
  (.region [
    ⟨some 57, (.bin .add (.t 30) (.c (.s (.int .i64 1)))), none⟩,
    ⟨some 30, (.move (.t 57)), none⟩] [] []))))
def c_names_walk_manyParams_k1 : List Nat := [31, 32, 33, 34, 7, 6, 35, 36, 37, 38, 39, 40, 41, 42, 9, 8, 43, 44, 45, 46, 47, 48, 49, 50, 51, 52, 53, 54, 55, 56, 57]
def c_names_walk_manyParams_l2 : ACode :=
  (.seq (.region [
    ⟨some 17, (.bin .lss (.t 16) (.t 15)), none⟩] [] [])
  (.seq (.cond (.t 17)
    .skip
    (.exit 0))
  (.seq (.block 1
    (.seq (.region [
      ⟨some 18, (.move (.t 16)), none⟩,
      ⟨some 19, (.indexAddr 3 (.t 14) (.t 16)), none⟩,
      ⟨some 20, (.load true 3 (.t 19)), none⟩,
      ⟨some 5, (.alloc [(.s (.string ⟨#[]⟩)), (.s (.slice none 0 0)), (.s (.slice none 0 0))]), none⟩,
      ⟨some 4, (.move (.t 18)), none⟩,
      ⟨none, (.store 3 (.t 5) (.t 20)), none⟩] [] [])
    (.seq (.seq (.region [
      ⟨some 21, (.fieldAddr 1 (.t 5)), none⟩,
      ⟨some 22, (.load false 1 (.t 21)), none⟩,
      ⟨some 23, (.lenS .s (.t 22)), none⟩,
      ⟨some 24, (.bin .gtr (.t 23) (.c (.s (.int .i64 8)))), none⟩] [] [])
    (.cond (.t 24)
      (.seq (.region [
        ⟨some 25, (.move (.t 4)), none⟩,
        ⟨some 26, (.build [(.s (.int .i64 0)), (.s (.int .i64 0)), (.s (.int .i64 0))] [(0, 1), (1, 1), (2, 1)] [(0, (.t 25))]), none⟩,
        ⟨none, (.store 3 (.t 2) (.t 26)), none⟩,
        ⟨some 3, (.move (.c (.s (.bool true)))), none⟩] [] [])
      .ret)
      .skip))
    (.seq (.region [
      ⟨some 27, (.fieldAddr 2 (.t 5)), none⟩,
      ⟨some 28, (.load false 1 (.t 27)), none⟩,
      ⟨some 29, (.lenS .s (.t 28)), none⟩,
      ⟨some 30, (.move (.c (.s (.int .i64 0)))), none⟩] [] [])
    (.block 2
      (.loop c_names_walk_manyParams_k1 c_names_walk_manyParams_l1))))))
  (.region [
    ⟨some 58, (.bin .add (.t 16) (.c (.s (.int .i64 1)))), none⟩,
    ⟨some 16, (.move (.t 58)), none⟩] [] []))))
def c_names_walk_manyParams_k2 : List Nat := [17, 18, 19, 20, 5, 4, 21, 22, 23, 24, 25, 26, 27, 28, 29, 30, 31, 32, 33, 34, 7, 6, 35, 36, 37, 38, 39, 40, 41, 42, 9, 8, 43, 44, 45, 46, 47, 48, 49, 50, 51, 52, 53, 54, 55, 56, 57, 58]
def c_names_walk_manyParams : ACFun := { ntmps := 60, results := [(.cell 2 true 3), (.tmp 3)], body :=
  (.seq (.region [
    ⟨some 2, (.alloc [(.s (.int .i64 0)), (.s (.int .i64 0)), (.s (.int .i64 0))]), none⟩,
    ⟨some 3, (.move (.c (.s (.bool false)))), none⟩] [] [])
  (.seq (.seq (.region [
    ⟨some 10, (.move (.t 0)), none⟩,
    ⟨some 11, (.nilCheck (.t 10)), none⟩,
    ⟨some 12, (.fieldAddr 0 (.t 11)), none⟩,
    ⟨some 13, (.fieldAddr 0 (.t 12)), none⟩,
    ⟨some 14, (.load false 1 (.t 13)), none⟩,
    ⟨some 15, (.lenS .s (.t 14)), none⟩,
    ⟨some 16, (.move (.c (.s (.int .i64 0)))), none⟩] [] [])
  (.block 0
    (.loop c_names_walk_manyParams_k2 c_names_walk_manyParams_l2)))
  (.seq (.region [
    ⟨some 59, (.build [(.s (.int .i64 0)), (.s (.int .i64 0)), (.s (.int .i64 0))] [(0, 1), (1, 1), (2, 1)] []), none⟩,
    ⟨none, (.store 3 (.t 2) (.t 59)), none⟩,
    ⟨some 3, (.move (.c (.s (.bool false)))), none⟩] [] [])
  .ret))) }
/- 27 (*gnomon/names.walk).manyBlocks -/
def c_names_walk_manyBlocks : ACFun := { ntmps := 8, results := [(.cell 2 true 3), (.tmp 3)], body :=
  (.seq (.region [
    ⟨some 2, (.alloc [(.s (.int .i64 0)), (.s (.int .i64 0)), (.s (.int .i64 0))]), none⟩,
    ⟨some 3, (.move (.c (.s (.bool false)))), none⟩] [] [])
  (.seq (.region [
    ⟨some 4, (.move (.t 0)), none⟩,
    ⟨some 5, (.call (.c (.fn 43 [] [])) [(.t 4), (.c (.fn 47 [] []))]), none⟩,
    ⟨some 6, (.extract (.t 5) 0), none⟩,
    ⟨some 7, (.extract (.t 5) 1), none⟩,
    ⟨none, (.store 3 (.t 2) (.t 6)), none⟩,
    ⟨some 3, (.move (.t 7)), none⟩] [] [])
  .ret)) }
/- 28 (*gnomon/names.walk).twiceLabel -/
def c_names_walk_twiceLabel_l0 : ACode :=
  (.seq (.region [
    ⟨some 25, (.bin .lss (.t 24) (.t 23)), none⟩] [] [])
  (.seq (.cond (.t 25)
    .skip
    (.exit 2))
  (.seq (.block 3
    (.seq (.region [
      ⟨some 26, (.move (.t 24)), none⟩,
      ⟨some 27, (.indexAddr 2 (.t 22) (.t 24)), none⟩,
      ⟨some 28, (.load true 2 (.t 27)), none⟩,
      ⟨some 8, (.alloc [(.s (.string ⟨#[]⟩)), (.s (.slice none 0 0))]), none⟩,
      ⟨some 7, (.move (.t 26)), none⟩,
      ⟨none, (.store 2 (.t 8) (.t 28)), none⟩] [] [])
    (.seq (.seq (.region [
      ⟨some 29, (.move (.t 6)), none⟩,
      ⟨some 30, (.fieldAddr 0 (.t 8)), none⟩,
      ⟨some 31, (.load false 1 (.t 30)), none⟩,
      ⟨some 32, (.mapGet .string (.s (.bool false)) (.t 29) (.t 31) false), none⟩] [] [])
    (.cond (.t 32)
      (.seq (.region [
        ⟨some 33, (.move (.t 4)), none⟩,
        ⟨some 34, (.move (.t 7)), none⟩,
        ⟨some 35, (.build [(.s (.int .i64 0)), (.s (.int .i64 0)), (.s (.int .i64 0))] [(0, 1), (1, 1), (2, 1)] [(0, (.t 33)), (1, (.t 34))]), none⟩,
        ⟨none, (.store 3 (.t 2) (.t 35)), none⟩,
        ⟨some 3, (.move (.c (.s (.bool true)))), none⟩] [] [])
      .ret)
      .skip))
    (.region [
      ⟨some 36, (.move (.t 6)), none⟩,
      ⟨some 37, (.fieldAddr 0 (.t 8)), none⟩,
      ⟨some 38, (.load false 1 (.t 37)), none⟩,
      ⟨none, (.mapUpd .string (.t 36) (.t 38) (.c (.s (.bool true)))), none⟩] [] []))))
  (.region [
    ⟨some 39, (.bin .add (.t 24) (.c (.s (.int .i64 1)))), none⟩,
    ⟨some 24, (.move (.t 39)), none⟩] [] []))))
def c_names_walk_twiceLabel_k0 : List Nat := [25, 26, 27, 28, 8, 7, 29, 30, 31, 32, 33, 34, 35, 36, 37, 38, 39]
def c_names_walk_twiceLabel_l1 : ACode :=
  (.seq (.region [
    ⟨some 16, (.bin .lss (.t 15) (.t 14)), none⟩] [] [])
  (.seq (.cond (.t 16)
    .skip
    (.exit 0))
  (.seq (.block 1
    (.seq (.region [
      ⟨some 17, (.move (.t 15)), none⟩,
      ⟨some 18, (.indexAddr 3 (.t 13) (.t 15)), none⟩,
      ⟨some 19, (.load true 3 (.t 18)), none⟩,
      ⟨some 5, (.alloc [(.s (.string ⟨#[]⟩)), (.s (.slice none 0 0)), (.s (.slice none 0 0))]), none⟩,
      ⟨some 4, (.move (.t 17)), none⟩,
      ⟨none, (.store 3 (.t 5) (.t 19)), none⟩] [] [])
    (.seq (.region [
      ⟨some 20, .mapNew, none⟩,
      ⟨some 6, (.move (.t 20)), none⟩] [] [])
    (.seq (.region [
      ⟨some 21, (.fieldAddr 2 (.t 5)), none⟩,
      ⟨some 22, (.load false 1 (.t 21)), none⟩,
      ⟨some 23, (.lenS .s (.t 22)), none⟩,
      ⟨some 24, (.move (.c (.s (.int .i64 0)))), none⟩] [] [])
    (.block 2
      (.loop c_names_walk_twiceLabel_k0 c_names_walk_twiceLabel_l0))))))
  (.region [
    ⟨some 40, (.bin .add (.t 15) (.c (.s (.int .i64 1)))), none⟩,
    ⟨some 15, (.move (.t 40)), none⟩] [] []))))
def c_names_walk_twiceLabel_k1 : List Nat := [16, 17, 18, 19, 5, 4, 20, 6, 21, 22, 23, 24, 25, 26, 27, 28, 8, 7, 29, 30, 31, 32, 33, 34, 35, 36, 37, 38, 39, 40]
def c_names_walk_twiceLabel : ACFun := { ntmps := 42, results := [(.cell 2 true 3), (.tmp 3)], body :=
  (.seq (.region [
    ⟨some 2, (.alloc [(.s (.int .i64 0)), (.s (.int .i64 0)), (.s (.int .i64 0))]), none⟩,
    ⟨some 3, (.move (.c (.s (.bool false)))), none⟩] [] [])
  (.seq (.seq (.region [
    ⟨some 9, (.move (.t 0)), none⟩,
    ⟨some 10, (.nilCheck (.t 9)), none⟩,
    ⟨some 11, (.fieldAddr 0 (.t 10)), none⟩,
    ⟨some 12, (.fieldAddr 0 (.t 11)), none⟩,
    ⟨some 13, (.load false 1 (.t 12)), none⟩,
    ⟨some 14, (.lenS .s (.t 13)), none⟩,
    ⟨some 15, (.move (.c (.s (.int .i64 0)))), none⟩] [] [])
  (.block 0
    (.loop c_names_walk_twiceLabel_k1 c_names_walk_twiceLabel_l1)))
  (.seq (.region [
    ⟨some 41, (.build [(.s (.int .i64 0)), (.s (.int .i64 0)), (.s (.int .i64 0))] [(0, 1), (1, 1), (2, 1)] []), none⟩,
    ⟨none, (.store 3 (.t 2) (.t 41)), none⟩,
    ⟨some 3, (.move (.c (.s (.bool false)))), none⟩] [] [])
  .ret))) }
/- 29 (*gnomon/names.walk).manyCode -/
def c_names_walk_manyCode : ACFun := { ntmps := 10, results := [(.cell 2 true 3), (.tmp 3)], body :=
  (.seq (.region [
    ⟨some 2, (.alloc [(.s (.int .i64 0)), (.s (.int .i64 0)), (.s (.int .i64 0))]), none⟩,
    ⟨some 3, (.move (.c (.s (.bool false)))), none⟩] [] [])
  (.seq (.region [
    ⟨some 4, (.alloc [(.s (.int .i64 0))]), none⟩,
    ⟨none, (.store 1 (.t 4) (.c (.s (.int .i64 0)))), none⟩] [] [])
  (.seq (.region [
    ⟨some 5, (.move (.t 0)), none⟩,
    ⟨some 6, (.mkFn 49 [] [(.t 4)]), none⟩,
    ⟨some 7, (.call (.c (.fn 48 [] [])) [(.t 5), (.t 6)]), none⟩,
    ⟨some 8, (.extract (.t 7) 0), none⟩,
    ⟨some 9, (.extract (.t 7) 1), none⟩,
    ⟨none, (.store 3 (.t 2) (.t 8)), none⟩,
    ⟨some 3, (.move (.t 9)), none⟩] [] [])
  .ret))) }
/- 30 (*gnomon/names.walk).badInstr -/
def c_names_walk_badInstr : ACFun := { ntmps := 9, results := [(.cell 2 true 3), (.tmp 3)], body :=
  (.seq (.region [
    ⟨some 1, (.box (.t 0)), none⟩,
    ⟨some 2, (.alloc [(.s (.int .i64 0)), (.s (.int .i64 0)), (.s (.int .i64 0))]), none⟩,
    ⟨some 3, (.move (.c (.s (.bool false)))), none⟩] [] [])
  (.seq (.region [
    ⟨some 4, (.load false 1 (.t 1)), none⟩,
    ⟨some 5, (.mkFn 50 [] [(.t 1)]), none⟩,
    ⟨some 6, (.call (.c (.fn 48 [] [])) [(.t 4), (.t 5)]), none⟩,
    ⟨some 7, (.extract (.t 6) 0), none⟩,
    ⟨some 8, (.extract (.t 6) 1), none⟩,
    ⟨none, (.store 3 (.t 2) (.t 7)), none⟩,
    ⟨some 3, (.move (.t 8)), none⟩] [] [])
  .ret)) }
/- 31 (*gnomon/names.walk).badEnd -/
def c_names_walk_badEnd_l0 : ACode :=
  (.seq (.region [
    ⟨some 40, (.bin .lss (.t 39) (.t 38)), none⟩] [] [])
  (.seq (.cond (.t 40)
    .skip
    (.exit 4))
  (.seq (.block 5
    (.seq (.region [
      ⟨some 41, (.move (.t 39)), none⟩,
      ⟨some 42, (.indexAddr 8 (.t 37) (.t 39)), none⟩,
      ⟨some 43, (.load true 8 (.t 42)), none⟩,
      ⟨some 9, (.alloc [(.s (.int .u8 0)), (.s (.string ⟨#[]⟩)), (.s (.string ⟨#[]⟩)), (.s (.string ⟨#[]⟩)), (.s (.int .i64 0)), (.s (.string ⟨#[]⟩)), (.s (.slice none 0 0)), (.s (.slice none 0 0))]), none⟩,
      ⟨some 8, (.move (.t 41)), none⟩,
      ⟨none, (.store 8 (.t 9) (.t 43)), none⟩] [] [])
    (.seq (.region [
      ⟨some 44, (.fieldAddr 0 (.t 9)), none⟩,
      ⟨some 45, (.load false 1 (.t 44)), none⟩,
      ⟨some 46, (.callR (.c (.fn 51 [] [])) [(.t 45)]), none⟩,
      ⟨some 47, (.move (.t 8)), none⟩,
      ⟨some 48, (.fieldAddr 1 (.t 7)), none⟩,
      ⟨some 49, (.load false 1 (.t 48)), none⟩,
      ⟨some 50, (.lenS .s (.t 49)), none⟩,
      ⟨some 51, (.bin .sub (.t 50) (.c (.s (.int .i64 1)))), none⟩,
      ⟨some 52, (.bin .eql (.t 47) (.t 51)), none⟩,
      ⟨some 53, (.eqB true (.t 46) (.t 52)), none⟩] [] [])
    (.cond (.t 53)
      (.seq (.region [
        ⟨some 54, (.move (.t 4)), none⟩,
        ⟨some 55, (.move (.t 6)), none⟩,
        ⟨some 56, (.move (.t 8)), none⟩,
        ⟨some 57, (.build [(.s (.int .i64 0)), (.s (.int .i64 0)), (.s (.int .i64 0))] [(0, 1), (1, 1), (2, 1)] [(0, (.t 54)), (1, (.t 55)), (2, (.t 56))]), none⟩,
        ⟨none, (.store 3 (.t 2) (.t 57)), none⟩,
        ⟨some 3, (.move (.c (.s (.bool true)))), none⟩] [] [])
      .ret)
      .skip))))
  (.region [
    ⟨some 58, (.bin .add (.t 39) (.c (.s (.int .i64 1)))), none⟩,
    ⟨some 39, (.move (.t 58)), none⟩] [] []))))
def c_names_walk_badEnd_k0 : List Nat := [40, 41, 42, 43, 9, 8, 44, 45, 46, 47, 48, 49, 50, 51, 52, 53, 54, 55, 56, 57, 58]
def c_names_walk_badEnd_l1 : ACode :=
  (.seq (.region [
    ⟨some 25, (.bin .lss (.t 24) (.t 23)), none⟩] [] [])
  (.seq (.cond (.t 25)
    .skip
    (.exit 2))
  (.seq (.block 3
    (.seq (.region [
      ⟨some 26, (.move (.t 24)), none⟩,
      ⟨some 27, (.indexAddr 2 (.t 22) (.t 24)), none⟩,
      ⟨some 28, (.load true 2 (.t 27)), none⟩,
      ⟨some 7, (.alloc [(.s (.string ⟨#[]⟩)), (.s (.slice none 0 0))]), none⟩,
      ⟨some 6, (.move (.t 26)), none⟩,
      ⟨none, (.store 2 (.t 7) (.t 28)), none⟩] [] [])
    (.seq (.seq (.region [
      ⟨some 29, (.fieldAddr 1 (.t 7)), none⟩,
      ⟨some 30, (.load false 1 (.t 29)), none⟩,
      ⟨some 31, (.lenS .s (.t 30)), none⟩,
      ⟨some 32, (.bin .eql (.t 31) (.c (.s (.int .i64 0)))), none⟩] [] [])
    (.cond (.t 32)
      (.seq (.region [
        ⟨some 33, (.move (.t 4)), none⟩,
        ⟨some 34, (.move (.t 6)), none⟩,
        ⟨some 35, (.build [(.s (.int .i64 0)), (.s (.int .i64 0)), (.s (.int .i64 0))] [(0, 1), (1, 1), (2, 1)] [(0, (.t 33)), (1, (.t 34))]), none⟩,
        ⟨none, (.store 3 (.t 2) (.t 35)), none⟩,
        ⟨some 3, (.move (.c (.s (.bool true)))), none⟩] [] [])
      .ret)
      .skip))
    (.seq (.region [
      ⟨some 36, (.fieldAddr 1 (.t 7)), none⟩,
      ⟨some 37, (.load false 1 (.t 36)), none⟩,
      ⟨some 38, (.lenS .s (.t 37)), none⟩,
      ⟨some 39, (.move (.c (.s (.int .i64 0)))), none⟩] [] [])
    (.block 4
      (.loop c_names_walk_badEnd_k0 c_names_walk_badEnd_l0))))))
  (.region [
    ⟨some 59, (.bin .add (.t 24) (.c (.s (.int .i64 1)))), none⟩,
    ⟨some 24, (.move (.t 59)), none⟩] [] []))))
def c_names_walk_badEnd_k1 : List Nat := [25, 26, 27, 28, 7, 6, 29, 30, 31, 32, 33, 34, 35, 36, 37, 38, 39, 40, 41, 42, 43, 9, 8, 44, 45, 46, 47, 48, 49, 50, 51, 52, 53, 54, 55, 56, 57, 58, 59]
def c_names_walk_badEnd_l2 : ACode :=
  (.seq (.region [
    ⟨some 17, (.bin .lss (.t 16) (.t 15)), none⟩] [] [])
  (.seq (.cond (.t 17)
    .skip
    (.exit 0))
  (.seq (.block 1
    (.seq (.region [
      ⟨some 18, (.move (.t 16)), none⟩,
      ⟨some 19, (.indexAddr 3 (.t 14) (.t 16)), none⟩,
      ⟨some 20, (.load true 3 (.t 19)), none⟩,
      ⟨some 5, (.alloc [(.s (.string ⟨#[]⟩)), (.s (.slice none 0 0)), (.s (.slice none 0 0))]), none⟩,
      ⟨some 4, (.move (.t 18)), none⟩,
      ⟨none, (.store 3 (.t 5) (.t 20)), none⟩] [] [])
    (.seq (.region [
      ⟨some 21, (.fieldAddr 2 (.t 5)), none⟩,
      ⟨some 22, (.load false 1 (.t 21)), none⟩,
      ⟨some 23, (.lenS .s (.t 22)), none⟩,
      ⟨some 24, (.move (.c (.s (.int .i64 0)))), none⟩] [] [])
    (.block 2
      (.loop c_names_walk_badEnd_k1 c_names_walk_badEnd_l1)))))
  (.region [
    ⟨some 60, (.bin .add (.t 16) (.c (.s (.int .i64 1)))), none⟩,
    ⟨some 16, (.move (.t 60)), none⟩] [] []))))
def c_names_walk_badEnd_k2 : List Nat := [17, 18, 19, 20, 5, 4, 21, 22, 23, 24, 25, 26, 27, 28, 7, 6, 29, 30, 31, 32, 33, 34, 35, 36, 37, 38, 39, 40, 41, 42, 43, 9, 8, 44, 45, 46, 47, 48, 49, 50, 51, 52, 53, 54, 55, 56, 57, 58, 59, 60]
def c_names_walk_badEnd : ACFun := { ntmps := 62, results := [(.cell 2 true 3), (.tmp 3)], body :=
  (.seq (.region [
    ⟨some 2, (.alloc [(.s (.int .i64 0)), (.s (.int .i64 0)), (.s (.int .i64 0))]), none⟩,
    ⟨some 3, (.move (.c (.s (.bool false)))), none⟩] [] [])
  (.seq (.seq (.region [
    ⟨some 10, (.move (.t 0)), none⟩,
    ⟨some 11, (.nilCheck (.t 10)), none⟩,
    ⟨some 12, (.fieldAddr 0 (.t 11)), none⟩,
    ⟨some 13, (.fieldAddr 0 (.t 12)), none⟩,
    ⟨some 14, (.load false 1 (.t 13)), none⟩,
    ⟨some 15, (.lenS .s (.t 14)), none⟩,
    ⟨some 16, (.move (.c (.s (.int .i64 0)))), none⟩] [] [])
  (.block 0
    (.loop c_names_walk_badEnd_k2 c_names_walk_badEnd_l2)))
  (.seq (.region [
    ⟨some 61, (.build [(.s (.int .i64 0)), (.s (.int .i64 0)), (.s (.int .i64 0))] [(0, 1), (1, 1), (2, 1)] []), none⟩,
    ⟨none, (.store 3 (.t 2) (.t 61)), none⟩,
    ⟨some 3, (.move (.c (.s (.bool false)))), none⟩] [] [])
  .ret))) }
/- 32 (*gnomon/names.walk).badPhi -/
def c_names_walk_badPhi : ACFun := { ntmps := 9, results := [(.cell 2 true 3), (.tmp 3)], body :=
  (.seq (.region [
    ⟨some 1, (.box (.t 0)), none⟩,
    ⟨some 2, (.alloc [(.s (.int .i64 0)), (.s (.int .i64 0)), (.s (.int .i64 0))]), none⟩,
    ⟨some 3, (.move (.c (.s (.bool false)))), none⟩] [] [])
  (.seq (.region [
    ⟨some 4, (.load false 1 (.t 1)), none⟩,
    ⟨some 5, (.mkFn 52 [] [(.t 1)]), none⟩,
    ⟨some 6, (.call (.c (.fn 48 [] [])) [(.t 4), (.t 5)]), none⟩,
    ⟨some 7, (.extract (.t 6) 0), none⟩,
    ⟨some 8, (.extract (.t 6) 1), none⟩,
    ⟨none, (.store 3 (.t 2) (.t 7)), none⟩,
    ⟨some 3, (.move (.t 8)), none⟩] [] [])
  .ret)) }
/- 33 (*gnomon/names.walk).noLabel -/
def c_names_walk_noLabel : ACFun := { ntmps := 9, results := [(.cell 2 true 3), (.tmp 3)], body :=
  (.seq (.region [
    ⟨some 1, (.box (.t 0)), none⟩,
    ⟨some 2, (.alloc [(.s (.int .i64 0)), (.s (.int .i64 0)), (.s (.int .i64 0))]), none⟩,
    ⟨some 3, (.move (.c (.s (.bool false)))), none⟩] [] [])
  (.seq (.region [
    ⟨some 4, (.load false 1 (.t 1)), none⟩,
    ⟨some 5, (.mkFn 55 [] [(.t 1)]), none⟩,
    ⟨some 6, (.call (.c (.fn 48 [] [])) [(.t 4), (.t 5)]), none⟩,
    ⟨some 7, (.extract (.t 6) 0), none⟩,
    ⟨some 8, (.extract (.t 6) 1), none⟩,
    ⟨none, (.store 3 (.t 2) (.t 7)), none⟩,
    ⟨some 3, (.move (.t 8)), none⟩] [] [])
  .ret)) }
/- 34 (*gnomon/names.walk).noFunc -/
def c_names_walk_noFunc : ACFun := { ntmps := 9, results := [(.cell 2 true 3), (.tmp 3)], body :=
  (.seq (.region [
    ⟨some 1, (.box (.t 0)), none⟩,
    ⟨some 2, (.alloc [(.s (.int .i64 0)), (.s (.int .i64 0)), (.s (.int .i64 0))]), none⟩,
    ⟨some 3, (.move (.c (.s (.bool false)))), none⟩] [] [])
  (.seq (.region [
    ⟨some 4, (.load false 1 (.t 1)), none⟩,
    ⟨some 5, (.mkFn 59 [] [(.t 1)]), none⟩,
    ⟨some 6, (.call (.c (.fn 48 [] [])) [(.t 4), (.t 5)]), none⟩,
    ⟨some 7, (.extract (.t 6) 0), none⟩,
    ⟨some 8, (.extract (.t 6) 1), none⟩,
    ⟨none, (.store 3 (.t 2) (.t 7)), none⟩,
    ⟨some 3, (.move (.t 8)), none⟩] [] [])
  .ret)) }
/- 35 (*gnomon/names.walk).arity -/
def c_names_walk_arity : ACFun := { ntmps := 9, results := [(.cell 2 true 3), (.tmp 3)], body :=
  (.seq (.region [
    ⟨some 1, (.box (.t 0)), none⟩,
    ⟨some 2, (.alloc [(.s (.int .i64 0)), (.s (.int .i64 0)), (.s (.int .i64 0))]), none⟩,
    ⟨some 3, (.move (.c (.s (.bool false)))), none⟩] [] [])
  (.seq (.region [
    ⟨some 4, (.load false 1 (.t 1)), none⟩,
    ⟨some 5, (.mkFn 60 [] [(.t 1)]), none⟩,
    ⟨some 6, (.call (.c (.fn 48 [] [])) [(.t 4), (.t 5)]), none⟩,
    ⟨some 7, (.extract (.t 6) 0), none⟩,
    ⟨some 8, (.extract (.t 6) 1), none⟩,
    ⟨none, (.store 3 (.t 2) (.t 7)), none⟩,
    ⟨some 3, (.move (.t 8)), none⟩] [] [])
  .ret)) }
/- 36 (*gnomon/names.walk).twiceVar -/
def c_names_walk_twiceVar_l0 : ACode :=
  (.seq (.region [
    ⟨some 29, (.bin .lss (.t 28) (.t 27)), none⟩] [] [])
  (.seq (.cond (.t 29)
    .skip
    (.exit 2))
  (.seq (.block 3
    (.seq (.region [
      ⟨some 30, (.indexAddr 1 (.t 26) (.t 28)), none⟩,
      ⟨some 31, (.load false 1 (.t 30)), none⟩,
      ⟨some 8, (.move (.t 31)), none⟩] [] [])
    (.seq (.seq (.region [
      ⟨some 32, (.move (.t 6)), none⟩,
      ⟨some 33, (.move (.t 8)), none⟩,
      ⟨some 34, (.mapGet .string (.s (.bool false)) (.t 32) (.t 33) false), none⟩] [] [])
    (.cond (.t 34)
      (.seq (.region [
        ⟨some 35, (.move (.t 4)), none⟩,
        ⟨some 36, (.build [(.s (.int .i64 0)), (.s (.int .i64 0)), (.s (.int .i64 0))] [(0, 1), (1, 1), (2, 1)] [(0, (.t 35))]), none⟩,
        ⟨none, (.store 3 (.t 2) (.t 36)), none⟩,
        ⟨some 3, (.move (.c (.s (.bool true)))), none⟩] [] [])
      .ret)
      .skip))
    (.region [
      ⟨some 37, (.move (.t 6)), none⟩,
      ⟨some 38, (.move (.t 8)), none⟩,
      ⟨none, (.mapUpd .string (.t 37) (.t 38) (.c (.s (.bool true)))), none⟩] [] []))))
  (.region [
    ⟨some 39, (.bin .add (.t 28) (.c (.s (.int .i64 1)))), none⟩,
    ⟨some 28, (.move (.t 39)), none⟩] [] []))))
def c_names_walk_twiceVar_k0 : List Nat := [29, 30, 31, 8, 32, 33, 34, 35, 36, 37, 38, 39]
def c_names_walk_twiceVar_l1 : ACode :=
  (.seq (.region [
    ⟨some 52, (.bin .lss (.t 51) (.t 50)), none⟩] [] [])
  (.seq (.cond (.t 52)
    .skip
    (.exit 6))
  (.seq (.block 7
    (.seq (.region [
      ⟨some 53, (.move (.t 51)), none⟩,
      ⟨some 54, (.indexAddr 8 (.t 49) (.t 51)), none⟩,
      ⟨some 55, (.load true 8 (.t 54)), none⟩,
      ⟨some 12, (.alloc [(.s (.int .u8 0)), (.s (.string ⟨#[]⟩)), (.s (.string ⟨#[]⟩)), (.s (.string ⟨#[]⟩)), (.s (.int .i64 0)), (.s (.string ⟨#[]⟩)), (.s (.slice none 0 0)), (.s (.slice none 0 0))]), none⟩,
      ⟨some 11, (.move (.t 53)), none⟩,
      ⟨none, (.store 8 (.t 12) (.t 55)), none⟩] [] [])
    (.seq (.seq (.region [
      ⟨some 56, (.fieldAddr 1 (.t 12)), none⟩,
      ⟨some 57, (.load false 1 (.t 56)), none⟩,
      ⟨some 58, (.bin .neq (.t 57) (.c (.s (.string ⟨#[]⟩)))), none⟩,
      ⟨some 59, (.move (.t 58)), none⟩,
      ⟨some 60, (.move (.t 6)), some (59, true)⟩,
      ⟨some 61, (.fieldAddr 1 (.t 12)), some (59, true)⟩,
      ⟨some 62, (.load false 1 (.t 61)), some (59, true)⟩,
      ⟨some 63, (.mapGet .string (.s (.bool false)) (.t 60) (.t 62) false), some (59, true)⟩,
      ⟨some 64, (.pick (.t 59) (.t 63) (.c (.s (.bool false)))), none⟩] [] [])
    (.cond (.t 64)
      (.seq (.region [
        ⟨some 65, (.move (.t 4)), none⟩,
        ⟨some 66, (.move (.t 9)), none⟩,
        ⟨some 67, (.move (.t 11)), none⟩,
        ⟨some 68, (.build [(.s (.int .i64 0)), (.s (.int .i64 0)), (.s (.int .i64 0))] [(0, 1), (1, 1), (2, 1)] [(0, (.t 65)), (1, (.t 66)), (2, (.t 67))]), none⟩,
        ⟨none, (.store 3 (.t 2) (.t 68)), none⟩,
        ⟨some 3, (.move (.c (.s (.bool true)))), none⟩] [] [])
      .ret)
      .skip))
    (.region [
      ⟨some 69, (.move (.t 6)), none⟩,
      ⟨some 70, (.fieldAddr 1 (.t 12)), none⟩,
      ⟨some 71, (.load false 1 (.t 70)), none⟩,
      ⟨none, (.mapUpd .string (.t 69) (.t 71) (.c (.s (.bool true)))), none⟩] [] []))))
  (.region [
    ⟨some 72, (.bin .add (.t 51) (.c (.s (.int .i64 1)))), none⟩,
    ⟨some 51, (.move (.t 72)), none⟩] [] []))))
def c_names_walk_twiceVar_k1 : List Nat := [52, 53, 54, 55, 12, 11, 56, 57, 58, 59, 60, 61, 62, 63, 64, 65, 66, 67, 68, 69, 70, 71, 72]
def c_names_walk_twiceVar_l2 : ACode :=
  (.seq (.region [
    ⟨some 44, (.bin .lss (.t 43) (.t 42)), none⟩] [] [])
  (.seq (.cond (.t 44)
    .skip
    (.exit 4))
  (.seq (.block 5
    (.seq (.region [
      ⟨some 45, (.move (.t 43)), none⟩,
      ⟨some 46, (.indexAddr 2 (.t 41) (.t 43)), none⟩,
      ⟨some 47, (.load true 2 (.t 46)), none⟩,
      ⟨some 10, (.alloc [(.s (.string ⟨#[]⟩)), (.s (.slice none 0 0))]), none⟩,
      ⟨some 9, (.move (.t 45)), none⟩,
      ⟨none, (.store 2 (.t 10) (.t 47)), none⟩] [] [])
    (.seq (.region [
      ⟨some 48, (.fieldAddr 1 (.t 10)), none⟩,
      ⟨some 49, (.load false 1 (.t 48)), none⟩,
      ⟨some 50, (.lenS .s (.t 49)), none⟩,
      ⟨some 51, (.move (.c (.s (.int .i64 0)))), none⟩] [] [])
    (.block 6
      (.loop c_names_walk_twiceVar_k1 c_names_walk_twiceVar_l1)))))
  (.region [
    ⟨some 73, (.bin .add (.t 43) (.c (.s (.int .i64 1)))), none⟩,
    ⟨some 43, (.move (.t 73)), none⟩] [] []))))
def c_names_walk_twiceVar_k2 : List Nat := [44, 45, 46, 47, 10, 9, 48, 49, 50, 51, 52, 53, 54, 55, 12, 11, 56, 57, 58, 59, 60, 61, 62, 63, 64, 65, 66, 67, 68, 69, 70, 71, 72, 73]
def c_names_walk_twiceVar_l3 : ACode :=
  (.seq (.region [
    ⟨some 20, (.bin .lss (.t 19) (.t 18)), none⟩] [] [])
  (.seq (.cond (.t 20)
    .skip
    (.exit 0))
  (.seq (.block 1
    (.seq (.region [
      ⟨some 21, (.move (.t 19)), none⟩,
      ⟨some 22, (.indexAddr 3 (.t 17) (.t 19)), none⟩,
      ⟨some 23, (.load true 3 (.t 22)), none⟩,
      ⟨some 5, (.alloc [(.s (.string ⟨#[]⟩)), (.s (.slice none 0 0)), (.s (.slice none 0 0))]), none⟩,
      ⟨some 4, (.move (.t 21)), none⟩,
      ⟨none, (.store 3 (.t 5) (.t 23)), none⟩] [] [])
    (.seq (.region [
      ⟨some 24, .mapNew, none⟩,
      ⟨some 6, (.move (.t 24)), none⟩] [] [])
    (.seq (.seq (.region [
      ⟨some 25, (.fieldAddr 1 (.t 5)), none⟩,
      ⟨some 26, (.load false 1 (.t 25)), none⟩,
      ⟨some 27, (.lenS .s (.t 26)), none⟩,
      ⟨some 28, (.move (.c (.s (.int .i64 0)))), none⟩] [] [])
    (.block 2
      (.loop c_names_walk_twiceVar_k0 c_names_walk_twiceVar_l0)))
    (.seq (.region [
      ⟨some 40, (.fieldAddr 2 (.t 5)), none⟩,
      ⟨some 41, (.load false 1 (.t 40)), none⟩,
      ⟨some 42, (.lenS .s (.t 41)), none⟩,
      ⟨some 43, (.move (.c (.s (.int .i64 0)))), none⟩] [] [])
    (.block 4
      (.loop c_names_walk_twiceVar_k2 c_names_walk_twiceVar_l2)))))))
  (.region [
    ⟨some 74, (.bin .add (.t 19) (.c (.s (.int .i64 1)))), none⟩,
    ⟨some 19, (.move (.t 74)), none⟩] [] []))))
def c_names_walk_twiceVar_k3 : List Nat := [20, 21, 22, 23, 5, 4, 24, 6, 25, 26, 27, 28, 29, 30, 31, 8, 32, 33, 34, 35, 36, 37, 38, 39, 40, 41, 42, 43, 44, 45, 46, 47, 10, 9, 48, 49, 50, 51, 52, 53, 54, 55, 12, 11, 56, 57, 58, 59, 60, 61, 62, 63, 64, 65, 66, 67, 68, 69, 70, 71, 72, 73, 74]
def c_names_walk_twiceVar : ACFun := { ntmps := 76, results := [(.cell 2 true 3), (.tmp 3)], body :=
  (.seq (.region [
    ⟨some 2, (.alloc [(.s (.int .i64 0)), (.s (.int .i64 0)), (.s (.int .i64 0))]), none⟩,
    ⟨some 3, (.move (.c (.s (.bool false)))), none⟩] [] [])
  (.seq (.seq (.region [
    ⟨some 13, (.move (.t 0)), none⟩,
    ⟨some 14, (.nilCheck (.t 13)), none⟩,
    ⟨some 15, (.fieldAddr 0 (.t 14)), none⟩,
    ⟨some 16, (.fieldAddr 0 (.t 15)), none⟩,
    ⟨some 17, (.load false 1 (.t 16)), none⟩,
    ⟨some 18, (.lenS .s (.t 17)), none⟩,
    ⟨some 19, (.move (.c (.s (.int .i64 0)))), none⟩] [] [])
  (.block 0
    (.loop c_names_walk_twiceVar_k3 c_names_walk_twiceVar_l3)))
  (.seq (.region [
    ⟨some 75, (.build [(.s (.int .i64 0)), (.s (.int .i64 0)), (.s (.int .i64 0))] [(0, 1), (1, 1), (2, 1)] []), none⟩,
    ⟨none, (.store 3 (.t 2) (.t 75)), none⟩,
    ⟨some 3, (.move (.c (.s (.bool false)))), none⟩] [] [])
  .ret))) }
/- 37 (*gnomon/names.walk).noVar -/
def c_names_walk_noVar_l0 : ACode :=
  (.seq (.region [
    ⟨some 34, (.bin .lss (.t 33) (.t 32)), none⟩] [] [])
  (.seq (.cond (.t 34)
    .skip
    (.exit 2))
  (.seq (.block 3
    (.seq (.region [
      ⟨some 35, (.indexAddr 1 (.t 31) (.t 33)), none⟩,
      ⟨some 36, (.load false 1 (.t 35)), none⟩,
      ⟨some 8, (.move (.t 36)), none⟩] [] [])
    (.region [
      ⟨some 37, (.load false 1 (.t 6)), none⟩,
      ⟨some 38, (.move (.t 8)), none⟩,
      ⟨none, (.mapUpd .string (.t 37) (.t 38) (.c (.s (.bool true)))), none⟩] [] [])))
  (.region [
    ⟨some 39, (.bin .add (.t 33) (.c (.s (.int .i64 1)))), none⟩,
    ⟨some 33, (.move (.t 39)), none⟩] [] []))))
def c_names_walk_noVar_k0 : List Nat := [34, 35, 36, 8, 37, 38, 39]
def c_names_walk_noVar_l1 : ACode :=
  (.seq (.region [
    ⟨some 51, (.bin .lss (.t 50) (.t 49)), none⟩] [] [])
  (.seq (.cond (.t 51)
    .skip
    (.exit 6))
  (.seq (.block 7
    (.seq (.region [
      ⟨some 52, (.indexAddr 8 (.t 48) (.t 50)), none⟩,
      ⟨some 53, (.load true 8 (.t 52)), none⟩,
      ⟨some 12, (.alloc [(.s (.int .u8 0)), (.s (.string ⟨#[]⟩)), (.s (.string ⟨#[]⟩)), (.s (.string ⟨#[]⟩)), (.s (.int .i64 0)), (.s (.string ⟨#[]⟩)), (.s (.slice none 0 0)), (.s (.slice none 0 0))]), none⟩,
      ⟨none, (.store 8 (.t 12) (.t 53)), none⟩] [] [])
    (.region [
      ⟨some 54, (.load false 1 (.t 6)), none⟩,
      ⟨some 55, (.fieldAddr 1 (.t 12)), none⟩,
      ⟨some 56, (.load false 1 (.t 55)), none⟩,
      ⟨none, (.mapUpd .string (.t 54) (.t 56) (.c (.s (.bool true)))), none⟩] [] [])))
  (.region [
    ⟨some 57, (.bin .add (.t 50) (.c (.s (.int .i64 1)))), none⟩,
    ⟨some 50, (.move (.t 57)), none⟩] [] []))))
def c_names_walk_noVar_k1 : List Nat := [51, 52, 53, 12, 54, 55, 56, 57]
def c_names_walk_noVar_l2 : ACode :=
  (.seq (.region [
    ⟨some 44, (.bin .lss (.t 43) (.t 42)), none⟩] [] [])
  (.seq (.cond (.t 44)
    .skip
    (.exit 4))
  (.seq (.block 5
    (.seq (.region [
      ⟨some 45, (.indexAddr 2 (.t 41) (.t 43)), none⟩,
      ⟨some 46, (.load true 2 (.t 45)), none⟩,
      ⟨some 10, (.alloc [(.s (.string ⟨#[]⟩)), (.s (.slice none 0 0))]), none⟩,
      ⟨none, (.store 2 (.t 10) (.t 46)), none⟩] [] [])
    (.seq (.region [
      ⟨some 47, (.fieldAddr 1 (.t 10)), none⟩,
      ⟨some 48, (.load false 1 (.t 47)), none⟩,
      ⟨some 49, (.lenS .s (.t 48)), none⟩,
      ⟨some 50, (.move (.c (.s (.int .i64 0)))), none⟩] [] [])
    (.block 6
      (.loop c_names_walk_noVar_k1 c_names_walk_noVar_l1)))))
  (.region [
    ⟨some 58, (.bin .add (.t 43) (.c (.s (.int .i64 1)))), none⟩,
    ⟨some 43, (.move (.t 58)), none⟩] [] []))))
def c_names_walk_noVar_k2 : List Nat := [44, 45, 46, 10, 47, 48, 49, 50, 51, 52, 53, 12, 54, 55, 56, 57, 58]
def c_names_walk_noVar_l3 : ACode :=
  (.seq (.region [
    ⟨some 71, (.bin .lss (.t 70) (.t 69)), none⟩] [] [])
  (.seq (.cond (.t 71)
    .skip
    (.exit 10))
  (.seq (.block 11
    (.seq (.region [
      ⟨some 72, (.move (.t 70)), none⟩,
      ⟨some 73, (.indexAddr 8 (.t 68) (.t 70)), none⟩,
      ⟨some 74, (.load true 8 (.t 73)), none⟩,
      ⟨some 16, (.alloc [(.s (.int .u8 0)), (.s (.string ⟨#[]⟩)), (.s (.string ⟨#[]⟩)), (.s (.string ⟨#[]⟩)), (.s (.int .i64 0)), (.s (.string ⟨#[]⟩)), (.s (.slice none 0 0)), (.s (.slice none 0 0))]), none⟩,
      ⟨some 15, (.move (.t 72)), none⟩,
      ⟨none, (.store 8 (.t 16) (.t 74)), none⟩] [] [])
    (.seq (.region [
      ⟨some 75, (.fieldAddr 2 (.t 16)), none⟩,
      ⟨some 76, (.load false 1 (.t 75)), none⟩,
      ⟨some 77, (.fieldAddr 3 (.t 16)), none⟩,
      ⟨some 78, (.load false 1 (.t 77)), none⟩,
      ⟨some 79, (.buildSl 1 2 [(.s (.string ⟨#[]⟩)), (.s (.string ⟨#[]⟩))] [(0, (.t 76)), (1, (.t 78))]), none⟩,
      ⟨some 80, (.fieldAddr 6 (.t 16)), none⟩,
      ⟨some 81, (.load false 1 (.t 80)), none⟩,
      ⟨some 82, (.append 1 16 (.t 79) (.t 81)), none⟩,
      ⟨some 83, (.mkFn 61 [] [(.t 6)]), none⟩,
      ⟨some 84, (.call (.c (.fn 39 [] [])) [(.t 82), (.t 83)]), none⟩] [] [])
    (.cond (.t 84)
      (.seq (.region [
        ⟨some 85, (.move (.t 4)), none⟩,
        ⟨some 86, (.move (.t 13)), none⟩,
        ⟨some 87, (.move (.t 15)), none⟩,
        ⟨some 88, (.build [(.s (.int .i64 0)), (.s (.int .i64 0)), (.s (.int .i64 0))] [(0, 1), (1, 1), (2, 1)] [(0, (.t 85)), (1, (.t 86)), (2, (.t 87))]), none⟩,
        ⟨none, (.store 3 (.t 2) (.t 88)), none⟩,
        ⟨some 3, (.move (.c (.s (.bool true)))), none⟩] [] [])
      .ret)
      .skip))))
  (.region [
    ⟨some 89, (.bin .add (.t 70) (.c (.s (.int .i64 1)))), none⟩,
    ⟨some 70, (.move (.t 89)), none⟩] [] []))))
def c_names_walk_noVar_k3 : List Nat := [71, 72, 73, 74, 16, 15, 75, 76, 77, 78, 79, 80, 81, 82, 83, 84, 85, 86, 87, 88, 89]
def c_names_walk_noVar_l4 : ACode :=
  (.seq (.region [
    ⟨some 63, (.bin .lss (.t 62) (.t 61)), none⟩] [] [])
  (.seq (.cond (.t 63)
    .skip
    (.exit 8))
  (.seq (.block 9
    (.seq (.region [
      ⟨some 64, (.move (.t 62)), none⟩,
      ⟨some 65, (.indexAddr 2 (.t 60) (.t 62)), none⟩,
      ⟨some 66, (.load true 2 (.t 65)), none⟩,
      ⟨some 14, (.alloc [(.s (.string ⟨#[]⟩)), (.s (.slice none 0 0))]), none⟩,
      ⟨some 13, (.move (.t 64)), none⟩,
      ⟨none, (.store 2 (.t 14) (.t 66)), none⟩] [] [])
    (.seq (.region [
      ⟨some 67, (.fieldAddr 1 (.t 14)), none⟩,
      ⟨some 68, (.load false 1 (.t 67)), none⟩,
      ⟨some 69, (.lenS .s (.t 68)), none⟩,
      ⟨some 70, (.move (.c (.s (.int .i64 0)))), none⟩] [] [])
    (.block 10
      (.loop c_names_walk_noVar_k3 c_names_walk_noVar_l3)))))
  (.region [
    ⟨some 90, (.bin .add (.t 62) (.c (.s (.int .i64 1)))), none⟩,
    ⟨some 62, (.move (.t 90)), none⟩] [] []))))
def c_names_walk_noVar_k4 : List Nat := [63, 64, 65, 66, 14, 13, 67, 68, 69, 70, 71, 72, 73, 74, 16, 15, 75, 76, 77, 78, 79, 80, 81, 82, 83, 84, 85, 86, 87, 88, 89, 90]
def c_names_walk_noVar_l5 : ACode :=
  (.seq (.region [
    ⟨some 24, (.bin .lss (.t 23) (.t 22)), none⟩] [] [])
  (.seq (.cond (.t 24)
    .skip
    (.exit 0))
  (.seq (.block 1
    (.seq (.region [
      ⟨some 25, (.move (.t 23)), none⟩,
      ⟨some 26, (.indexAddr 3 (.t 21) (.t 23)), none⟩,
      ⟨some 27, (.load true 3 (.t 26)), none⟩,
      ⟨some 5, (.alloc [(.s (.string ⟨#[]⟩)), (.s (.slice none 0 0)), (.s (.slice none 0 0))]), none⟩,
      ⟨some 4, (.move (.t 25)), none⟩,
      ⟨none, (.store 3 (.t 5) (.t 27)), none⟩] [] [])
    (.seq (.region [
      ⟨some 28, .mapNew, none⟩,
      ⟨none, (.mapUpd .string (.t 28) (.c (.s (.string ⟨#[]⟩))) (.c (.s (.bool true)))), none⟩,
      ⟨none, (.mapUpd .string (.t 28) (.c (.s (.string ⟨#[110, 117, 108, 108]⟩))) (.c (.s (.bool true)))), none⟩,
      ⟨some 29, (.move (.t 28)), none⟩,
      ⟨some 6, (.alloc [(.s (.map none))]), none⟩,
      ⟨none, (.store 1 (.t 6) (.t 29)), none⟩] [] [])
    (.seq (.seq (.region [
      ⟨some 30, (.fieldAddr 1 (.t 5)), none⟩,
      ⟨some 31, (.load false 1 (.t 30)), none⟩,
      ⟨some 32, (.lenS .s (.t 31)), none⟩,
      ⟨some 33, (.move (.c (.s (.int .i64 0)))), none⟩] [] [])
    (.block 2
      (.loop c_names_walk_noVar_k0 c_names_walk_noVar_l0)))
    (.seq (.seq (.region [
      ⟨some 40, (.fieldAddr 2 (.t 5)), none⟩,
      ⟨some 41, (.load false 1 (.t 40)), none⟩,
      ⟨some 42, (.lenS .s (.t 41)), none⟩,
      ⟨some 43, (.move (.c (.s (.int .i64 0)))), none⟩] [] [])
    (.block 4
      (.loop c_names_walk_noVar_k2 c_names_walk_noVar_l2)))
    (.seq (.region [
      ⟨some 59, (.fieldAddr 2 (.t 5)), none⟩,
      ⟨some 60, (.load false 1 (.t 59)), none⟩,
      ⟨some 61, (.lenS .s (.t 60)), none⟩,
      ⟨some 62, (.move (.c (.s (.int .i64 0)))), none⟩] [] [])
    (.block 8
      (.loop c_names_walk_noVar_k4 c_names_walk_noVar_l4))))))))
  (.region [
    ⟨some 91, (.bin .add (.t 23) (.c (.s (.int .i64 1)))), none⟩,
    ⟨some 23, (.move (.t 91)), none⟩] [] []))))
def c_names_walk_noVar_k5 : List Nat := [24, 25, 26, 27, 5, 4, 28, 29, 6, 30, 31, 32, 33, 34, 35, 36, 8, 37, 38, 39, 40, 41, 42, 43, 44, 45, 46, 10, 47, 48, 49, 50, 51, 52, 53, 12, 54, 55, 56, 57, 58, 59, 60, 61, 62, 63, 64, 65, 66, 14, 13, 67, 68, 69, 70, 71, 72, 73, 74, 16, 15, 75, 76, 77, 78, 79, 80, 81, 82, 83, 84, 85, 86, 87, 88, 89, 90, 91]
def c_names_walk_noVar : ACFun := { ntmps := 93, results := [(.cell 2 true 3), (.tmp 3)], body :=
  (.seq (.region [
    ⟨some 2, (.alloc [(.s (.int .i64 0)), (.s (.int .i64 0)), (.s (.int .i64 0))]), none⟩,
    ⟨some 3, (.move (.c (.s (.bool false)))), none⟩] [] [])
  (.seq (.seq (.region [
    ⟨some 17, (.move (.t 0)), none⟩,
    ⟨some 18, (.nilCheck (.t 17)), none⟩,
    ⟨some 19, (.fieldAddr 0 (.t 18)), none⟩,
    ⟨some 20, (.fieldAddr 0 (.t 19)), none⟩,
    ⟨some 21, (.load false 1 (.t 20)), none⟩,
    ⟨some 22, (.lenS .s (.t 21)), none⟩,
    ⟨some 23, (.move (.c (.s (.int .i64 0)))), none⟩] [] [])
  (.block 0
    (.loop c_names_walk_noVar_k5 c_names_walk_noVar_l5)))
  (.seq (.region [
    ⟨some 92, (.build [(.s (.int .i64 0)), (.s (.int .i64 0)), (.s (.int .i64 0))] [(0, 1), (1, 1), (2, 1)] []), none⟩,
    ⟨none, (.store 3 (.t 2) (.t 92)), none⟩,
    ⟨some 3, (.move (.c (.s (.bool false)))), none⟩] [] [])
  .ret))) }
/- 39 slices.ContainsFunc[[]string,string] -/
def c_slices_ContainsFunc_string_string : ACFun := { ntmps := 9, results := [(.tmp 4)], body :=
  (.seq (.region [
    ⟨some 4, (.move (.c (.s (.bool false)))), none⟩] [] [])
  (.seq (.region [
    ⟨some 5, (.move (.t 0)), none⟩,
    ⟨some 6, (.move (.t 1)), none⟩,
    ⟨some 7, (.call (.c (.fn 62 [] [])) [(.t 5), (.t 6)]), none⟩,
    ⟨some 8, (.bin .geq (.t 7) (.c (.s (.int .i64 0)))), none⟩,
    ⟨some 4, (.move (.t 8)), none⟩] [] [])
  .ret)) }
/- 40 (*gnomon/names.walk).badName$1 -/
def c_names_walk_badName_1 : ACFun := { ntmps := 6, results := [(.tmp 2)], body :=
  (.seq (.region [
    ⟨some 2, (.move (.c (.s (.bool false)))), none⟩] [] [])
  (.seq (.region [
    ⟨some 3, (.move (.t 0)), none⟩,
    ⟨some 4, (.call (.c (.fn 7 [] [])) [(.t 3)]), none⟩,
    ⟨some 5, (.un .not (.t 4)), none⟩,
    ⟨some 2, (.move (.t 5)), none⟩] [] [])
  .ret)) }
/- 41 gnomon/names.bad -/
def c_names_bad : ACFun := { ntmps := 8, results := [(.tmp 4)], body :=
  (.seq (.region [
    ⟨some 2, (.box (.t 0)), none⟩,
    ⟨some 4, (.move (.c (.s (.bool false)))), none⟩] [] [])
  (.seq (.region [
    ⟨some 5, (.move (.t 1)), none⟩,
    ⟨some 6, (.mkFn 63 [] [(.t 2)]), none⟩,
    ⟨some 7, (.call (.c (.fn 39 [] [])) [(.t 5), (.t 6)]), none⟩,
    ⟨some 4, (.move (.t 7)), none⟩] [] [])
  .ret)) }
/- 42 slices.Contains[[]string,string] -/
def c_slices_Contains_string_string : ACFun := { ntmps := 9, results := [(.tmp 4)], body :=
  (.seq (.region [
    ⟨some 4, (.move (.c (.s (.bool false)))), none⟩] [] [])
  (.seq (.region [
    ⟨some 5, (.move (.t 0)), none⟩,
    ⟨some 6, (.move (.t 1)), none⟩,
    ⟨some 7, (.call (.c (.fn 64 [] [])) [(.t 5), (.t 6)]), none⟩,
    ⟨some 8, (.bin .geq (.t 7) (.c (.s (.int .i64 0)))), none⟩,
    ⟨some 4, (.move (.t 8)), none⟩] [] [])
  .ret)) }
/- 43 (*gnomon/names.walk).funcs -/
def c_names_walk_funcs_l0 : ACode :=
  (.seq (.region [
    ⟨some 15, (.bin .lss (.t 14) (.t 13)), none⟩] [] [])
  (.seq (.cond (.t 15)
    .skip
    (.exit 0))
  (.seq (.block 1
    (.seq (.region [
      ⟨some 16, (.move (.t 14)), none⟩,
      ⟨some 17, (.indexAddr 3 (.t 12) (.t 14)), none⟩,
      ⟨some 18, (.load true 3 (.t 17)), none⟩,
      ⟨some 7, (.alloc [(.s (.string ⟨#[]⟩)), (.s (.slice none 0 0)), (.s (.slice none 0 0))]), none⟩,
      ⟨some 6, (.move (.t 16)), none⟩,
      ⟨none, (.store 3 (.t 7) (.t 18)), none⟩] [] [])
    (.seq (.region [
      ⟨some 19, (.move (.t 1)), none⟩,
      ⟨some 20, (.move (.t 6)), none⟩,
      ⟨some 21, (.load true 3 (.t 7)), none⟩,
      ⟨some 22, (.call (.t 19) [(.t 20), (.t 21)]), none⟩] [] [])
    (.cond (.t 22)
      (.seq (.region [
        ⟨some 23, (.move (.t 6)), none⟩,
        ⟨some 24, (.build [(.s (.int .i64 0)), (.s (.int .i64 0)), (.s (.int .i64 0))] [(0, 1), (1, 1), (2, 1)] [(0, (.t 23))]), none⟩,
        ⟨none, (.store 3 (.t 4) (.t 24)), none⟩,
        ⟨some 5, (.move (.c (.s (.bool true)))), none⟩] [] [])
      .ret)
      .skip))))
  (.region [
    ⟨some 25, (.bin .add (.t 14) (.c (.s (.int .i64 1)))), none⟩,
    ⟨some 14, (.move (.t 25)), none⟩] [] []))))
def c_names_walk_funcs_k0 : List Nat := [15, 16, 17, 18, 7, 6, 19, 20, 21, 22, 23, 24, 25]
def c_names_walk_funcs : ACFun := { ntmps := 27, results := [(.cell 4 true 3), (.tmp 5)], body :=
  (.seq (.region [
    ⟨some 4, (.alloc [(.s (.int .i64 0)), (.s (.int .i64 0)), (.s (.int .i64 0))]), none⟩,
    ⟨some 5, (.move (.c (.s (.bool false)))), none⟩] [] [])
  (.seq (.seq (.region [
    ⟨some 8, (.move (.t 0)), none⟩,
    ⟨some 9, (.nilCheck (.t 8)), none⟩,
    ⟨some 10, (.fieldAddr 0 (.t 9)), none⟩,
    ⟨some 11, (.fieldAddr 0 (.t 10)), none⟩,
    ⟨some 12, (.load false 1 (.t 11)), none⟩,
    ⟨some 13, (.lenS .s (.t 12)), none⟩,
    ⟨some 14, (.move (.c (.s (.int .i64 0)))), none⟩] [] [])
  (.block 0
    (.loop c_names_walk_funcs_k0 c_names_walk_funcs_l0)))
  (.seq (.region [
    ⟨some 26, (.build [(.s (.int .i64 0)), (.s (.int .i64 0)), (.s (.int .i64 0))] [(0, 1), (1, 1), (2, 1)] []), none⟩,
    ⟨none, (.store 3 (.t 4) (.t 26)), none⟩,
    ⟨some 5, (.move (.c (.s (.bool false)))), none⟩] [] [])
  .ret))) }
/- 44 (*gnomon/names.walk).twiceFunc$1 -/
def c_names_walk_twiceFunc_1 : ACFun := { ntmps := 15, results := [(.tmp 5)], body :=
  (.seq (.region [
    ⟨some 4, (.box (.t 1)), none⟩,
    ⟨some 5, (.move (.c (.s (.bool false)))), none⟩] [] [])
  (.seq (.region [
    ⟨some 7, (.load false 1 (.t 2)), none⟩,
    ⟨some 8, (.fieldAddr 0 (.t 4)), none⟩,
    ⟨some 9, (.load false 1 (.t 8)), none⟩,
    ⟨some 10, (.mapGet .string (.s (.bool false)) (.t 7) (.t 9) false), none⟩,
    ⟨some 6, (.move (.t 10)), none⟩] [] [])
  (.seq (.region [
    ⟨some 11, (.load false 1 (.t 2)), none⟩,
    ⟨some 12, (.fieldAddr 0 (.t 4)), none⟩,
    ⟨some 13, (.load false 1 (.t 12)), none⟩,
    ⟨none, (.mapUpd .string (.t 11) (.t 13) (.c (.s (.bool true)))), none⟩] [] [])
  (.seq (.region [
    ⟨some 14, (.move (.t 6)), none⟩,
    ⟨some 5, (.move (.t 14)), none⟩] [] [])
  .ret)))) }
/- 45 (*gnomon/names.walk).named -/
def c_names_walk_named : ACFun := { ntmps := 12, results := [(.tmp 4)], body :=
  (.seq (.region [
    ⟨some 3, (.box (.t 1)), none⟩,
    ⟨some 4, (.move (.c (.s (.int .i64 0)))), none⟩] [] [])
  (.seq (.region [
    ⟨some 5, (.move (.t 0)), none⟩,
    ⟨some 6, (.nilCheck (.t 5)), none⟩,
    ⟨some 7, (.fieldAddr 0 (.t 6)), none⟩,
    ⟨some 8, (.fieldAddr 0 (.t 7)), none⟩,
    ⟨some 9, (.load false 1 (.t 8)), none⟩,
    ⟨some 10, (.mkFn 66 [] [(.t 3)]), none⟩,
    ⟨some 11, (.call (.c (.fn 65 [] [])) [(.t 9), (.t 10)]), none⟩,
    ⟨some 4, (.move (.t 11)), none⟩] [] [])
  .ret)) }
/- 46 gnomon/names.calls -/
def c_names_calls : ACFun := { ntmps := 9, results := [(.tmp 2)], body :=
  (.seq (.region [
    ⟨some 2, (.move (.c (.s (.bool false)))), none⟩] [] [])
  (.seq (.region [
    ⟨some 3, (.move (.t 0)), none⟩,
    ⟨some 4, (.bin .eql (.t 3) (.c (.s (.int .u8 10)))), none⟩,
    ⟨some 5, (.move (.t 4)), none⟩,
    ⟨some 6, (.move (.t 0)), some (5, false)⟩,
    ⟨some 7, (.bin .eql (.t 6) (.c (.s (.int .u8 11)))), some (5, false)⟩,
    ⟨some 8, (.pick (.t 5) (.c (.s (.bool true))) (.t 7)), none⟩,
    ⟨some 2, (.move (.t 8)), none⟩] [] [])
  .ret)) }
/- 47 (*gnomon/names.walk).manyBlocks$1 -/
def c_names_walk_manyBlocks_1 : ACFun := { ntmps := 15, results := [(.tmp 4)], body :=
  (.seq (.region [
    ⟨some 3, (.box (.t 1)), none⟩,
    ⟨some 4, (.move (.c (.s (.bool false)))), none⟩] [] [])
  (.seq (.region [
    ⟨some 5, (.fieldAddr 2 (.t 3)), none⟩,
    ⟨some 6, (.load false 1 (.t 5)), none⟩,
    ⟨some 7, (.lenS .s (.t 6)), none⟩,
    ⟨some 8, (.bin .eql (.t 7) (.c (.s (.int .i64 0)))), none⟩,
    ⟨some 9, (.move (.t 8)), none⟩,
    ⟨some 10, (.fieldAddr 2 (.t 3)), some (9, false)⟩,
    ⟨some 11, (.load false 1 (.t 10)), some (9, false)⟩,
    ⟨some 12, (.lenS .s (.t 11)), some (9, false)⟩,
    ⟨some 13, (.bin .gtr (.t 12) (.c (.s (.int .i64 64)))), some (9, false)⟩,
    ⟨some 14, (.pick (.t 9) (.c (.s (.bool true))) (.t 13)), none⟩,
    ⟨some 4, (.move (.t 14)), none⟩] [] [])
  .ret)) }
/- 48 (*gnomon/names.walk).find -/
def c_names_walk_find_a0 : ACode :=
  (.seq (.region [
    ⟨some 6, (.alloc [(.s (.int .i64 0)), (.s (.int .i64 0)), (.s (.int .i64 0))]), none⟩,
    ⟨none, (.store 3 (.t 6) (.t 10)), none⟩] [] [])
  (.region [
    ⟨some 7, (.alloc [(.s (.int .u8 0)), (.s (.string ⟨#[]⟩)), (.s (.string ⟨#[]⟩)), (.s (.string ⟨#[]⟩)), (.s (.int .i64 0)), (.s (.string ⟨#[]⟩)), (.s (.slice none 0 0)), (.s (.slice none 0 0))]), none⟩,
    ⟨none, (.store 8 (.t 7) (.t 11)), none⟩] [] []))
def c_names_walk_find_b0 : ACode :=
  (.block 1
    (.seq (.region [
      ⟨some 12, (.load false 1 (.t 3)), none⟩,
      ⟨some 13, (.load true 3 (.t 6)), none⟩,
      ⟨some 14, (.load true 8 (.t 7)), none⟩,
      ⟨some 15, (.call (.t 12) [(.t 13), (.t 14)]), none⟩] [] [])
    (.cond (.t 15)
      (.seq (.region [
        ⟨some 16, (.load true 3 (.t 6)), none⟩,
        ⟨none, (.store 3 (.t 4) (.t 16)), none⟩,
        ⟨none, (.store 1 (.t 5) (.c (.s (.bool true)))), none⟩] [] [])
      .ret)
      .skip)))
def c_names_walk_find : ACFun := { ntmps := 18, results := [(.cell 4 true 3), (.cell 5 false 1)], body :=
  (.seq (.region [
    ⟨some 3, (.box (.t 1)), none⟩,
    ⟨some 4, (.alloc [(.s (.int .i64 0)), (.s (.int .i64 0)), (.s (.int .i64 0))]), none⟩,
    ⟨some 5, (.alloc [(.s (.bool false))]), none⟩] [] [])
  (.seq (.seq (.region [
    ⟨some 8, (.move (.t 0)), none⟩,
    ⟨some 9, (.call (.c (.fn 67 [] [])) [(.t 8)]), none⟩] [] [])
  (.block 0
    (.rangeFunc (.t 9) [10, 11] c_names_walk_find_a0 c_names_walk_find_b0)))
  (.seq (.region [
    ⟨some 17, (.build [(.s (.int .i64 0)), (.s (.int .i64 0)), (.s (.int .i64 0))] [(0, 1), (1, 1), (2, 1)] []), none⟩,
    ⟨none, (.store 3 (.t 4) (.t 17)), none⟩,
    ⟨none, (.store 1 (.t 5) (.c (.s (.bool false)))), none⟩] [] [])
  .ret))) }
/- 49 (*gnomon/names.walk).manyCode$1 -/
def c_names_walk_manyCode_1 : ACFun := { ntmps := 10, results := [(.tmp 5)], body :=
  (.seq (.region [
    ⟨some 3, (.box (.t 0)), none⟩,
    ⟨some 4, (.box (.t 1)), none⟩,
    ⟨some 5, (.move (.c (.s (.bool false)))), none⟩] [] [])
  (.seq (.region [
    ⟨some 6, (.load false 1 (.t 2)), none⟩,
    ⟨some 7, (.bin .add (.t 6) (.c (.s (.int .i64 1)))), none⟩,
    ⟨none, (.store 1 (.t 2) (.t 7)), none⟩] [] [])
  (.seq (.region [
    ⟨some 8, (.load false 1 (.t 2)), none⟩,
    ⟨some 9, (.bin .gtr (.t 8) (.c (.s (.int .i64 4096)))), none⟩,
    ⟨some 5, (.move (.t 9)), none⟩] [] [])
  .ret))) }
/- 50 (*gnomon/names.walk).badInstr$1 -/
def c_names_walk_badInstr_1 : ACFun := { ntmps := 187, results := [(.tmp 5)], body :=
  (.seq (.region [
    ⟨some 3, (.box (.t 0)), none⟩,
    ⟨some 4, (.box (.t 1)), none⟩,
    ⟨some 5, (.move (.c (.s (.bool false)))), none⟩] [] [])
  (.seq (.region [
    ⟨some 9, (.load false 1 (.t 2)), none⟩,
    ⟨some 10, (.nilCheck (.t 9)), none⟩,
    ⟨some 11, (.fieldAddr 1 (.t 10)), none⟩,
    ⟨some 12, (.load false 1 (.t 11)), none⟩,
    ⟨some 13, (.fieldAddr 0 (.t 4)), none⟩,
    ⟨some 14, (.load false 1 (.t 13)), none⟩,
    ⟨some 15, (.mapGet (.int .u8) (.agg [(.s (.bool false)), (.s (.bool false)), (.s (.bool false)), (.s (.bool false)), (.s (.bool false)), (.s (.bool false)), (.s (.bool false))]) (.t 12) (.t 14) true), none⟩,
    ⟨some 8, (.move (.t 15)), none⟩,
    ⟨some 16, (.extract (.t 8) 0), none⟩,
    ⟨some 17, (.extract (.t 8) 1), none⟩,
    ⟨some 6, (.alloc [(.s (.bool false)), (.s (.bool false)), (.s (.bool false)), (.s (.bool false)), (.s (.bool false)), (.s (.bool false)), (.s (.bool false))]), none⟩,
    ⟨none, (.store 7 (.t 6) (.t 16)), none⟩,
    ⟨some 7, (.move (.t 17)), none⟩] [] [])
  (.seq (.seq (.region [
    ⟨some 18, (.move (.t 7)), none⟩,
    ⟨some 19, (.un .not (.t 18)), none⟩,
    ⟨some 20, (.move (.t 19)), none⟩,
    ⟨some 21, (.fieldAddr 0 (.t 6)), some (20, false)⟩,
    ⟨some 22, (.load false 1 (.t 21)), some (20, false)⟩,
    ⟨some 23, (.un .not (.t 22)), some (20, false)⟩,
    ⟨some 24, (.move (.t 23)), some (20, false)⟩,
    ⟨some 25, (.fieldAddr 1 (.t 4)), some (24, true)⟩,
    ⟨some 26, (.load false 1 (.t 25)), some (24, true)⟩,
    ⟨some 27, (.bin .neq (.t 26) (.c (.s (.string ⟨#[]⟩)))), some (24, true)⟩,
    ⟨some 28, (.pick (.t 24) (.t 27) (.c (.s (.bool false)))), some (20, false)⟩,
    ⟨some 29, (.pick (.t 20) (.c (.s (.bool true))) (.t 28)), none⟩,
    ⟨some 30, (.move (.t 29)), none⟩,
    ⟨some 31, (.fieldAddr 1 (.t 6)), some (30, false)⟩,
    ⟨some 32, (.load false 1 (.t 31)), some (30, false)⟩,
    ⟨some 33, (.un .not (.t 32)), some (30, false)⟩,
    ⟨some 34, (.move (.t 33)), some (30, false)⟩,
    ⟨some 35, (.fieldAddr 2 (.t 4)), some (34, true)⟩,
    ⟨some 36, (.load false 1 (.t 35)), some (34, true)⟩,
    ⟨some 37, (.bin .neq (.t 36) (.c (.s (.string ⟨#[]⟩)))), some (34, true)⟩,
    ⟨some 38, (.pick (.t 34) (.t 37) (.c (.s (.bool false)))), some (30, false)⟩,
    ⟨some 39, (.pick (.t 30) (.c (.s (.bool true))) (.t 38)), none⟩,
    ⟨some 40, (.move (.t 39)), none⟩,
    ⟨some 41, (.fieldAddr 2 (.t 6)), some (40, false)⟩,
    ⟨some 42, (.load false 1 (.t 41)), some (40, false)⟩,
    ⟨some 43, (.un .not (.t 42)), some (40, false)⟩,
    ⟨some 44, (.move (.t 43)), some (40, false)⟩,
    ⟨some 45, (.fieldAddr 3 (.t 4)), some (44, true)⟩,
    ⟨some 46, (.load false 1 (.t 45)), some (44, true)⟩,
    ⟨some 47, (.bin .neq (.t 46) (.c (.s (.string ⟨#[]⟩)))), some (44, true)⟩,
    ⟨some 48, (.pick (.t 44) (.t 47) (.c (.s (.bool false)))), some (40, false)⟩,
    ⟨some 49, (.pick (.t 40) (.c (.s (.bool true))) (.t 48)), none⟩,
    ⟨some 50, (.move (.t 49)), none⟩,
    ⟨some 51, (.fieldAddr 3 (.t 6)), some (50, false)⟩,
    ⟨some 52, (.load false 1 (.t 51)), some (50, false)⟩,
    ⟨some 53, (.un .not (.t 52)), some (50, false)⟩,
    ⟨some 54, (.move (.t 53)), some (50, false)⟩,
    ⟨some 55, (.fieldAddr 4 (.t 4)), some (54, true)⟩,
    ⟨some 56, (.load false 1 (.t 55)), some (54, true)⟩,
    ⟨some 57, (.bin .neq (.t 56) (.c (.s (.int .i64 0)))), some (54, true)⟩,
    ⟨some 58, (.pick (.t 54) (.t 57) (.c (.s (.bool false)))), some (50, false)⟩,
    ⟨some 59, (.pick (.t 50) (.c (.s (.bool true))) (.t 58)), none⟩,
    ⟨some 60, (.move (.t 59)), none⟩,
    ⟨some 61, (.fieldAddr 4 (.t 6)), some (60, false)⟩,
    ⟨some 62, (.load false 1 (.t 61)), some (60, false)⟩,
    ⟨some 63, (.un .not (.t 62)), some (60, false)⟩,
    ⟨some 64, (.move (.t 63)), some (60, false)⟩,
    ⟨some 65, (.fieldAddr 5 (.t 4)), some (64, true)⟩,
    ⟨some 66, (.load false 1 (.t 65)), some (64, true)⟩,
    ⟨some 67, (.bin .neq (.t 66) (.c (.s (.string ⟨#[]⟩)))), some (64, true)⟩,
    ⟨some 68, (.pick (.t 64) (.t 67) (.c (.s (.bool false)))), some (60, false)⟩,
    ⟨some 69, (.pick (.t 60) (.c (.s (.bool true))) (.t 68)), none⟩,
    ⟨some 70, (.move (.t 69)), none⟩,
    ⟨some 71, (.fieldAddr 5 (.t 6)), some (70, false)⟩,
    ⟨some 72, (.load false 1 (.t 71)), some (70, false)⟩,
    ⟨some 73, (.un .not (.t 72)), some (70, false)⟩,
    ⟨some 74, (.move (.t 73)), some (70, false)⟩,
    ⟨some 75, (.fieldAddr 6 (.t 4)), some (74, true)⟩,
    ⟨some 76, (.load false 1 (.t 75)), some (74, true)⟩,
    ⟨some 77, (.lenS .s (.t 76)), some (74, true)⟩,
    ⟨some 78, (.bin .gtr (.t 77) (.c (.s (.int .i64 0)))), some (74, true)⟩,
    ⟨some 79, (.pick (.t 74) (.t 78) (.c (.s (.bool false)))), some (70, false)⟩,
    ⟨some 80, (.pick (.t 70) (.c (.s (.bool true))) (.t 79)), none⟩,
    ⟨some 81, (.move (.t 80)), none⟩,
    ⟨some 82, (.fieldAddr 6 (.t 6)), some (81, false)⟩,
    ⟨some 83, (.load false 1 (.t 82)), some (81, false)⟩,
    ⟨some 84, (.un .not (.t 83)), some (81, false)⟩,
    ⟨some 85, (.move (.t 84)), some (81, false)⟩,
    ⟨some 86, (.fieldAddr 7 (.t 4)), some (85, true)⟩,
    ⟨some 87, (.load false 1 (.t 86)), some (85, true)⟩,
    ⟨some 88, (.lenS .s (.t 87)), some (85, true)⟩,
    ⟨some 89, (.bin .gtr (.t 88) (.c (.s (.int .i64 0)))), some (85, true)⟩,
    ⟨some 90, (.pick (.t 85) (.t 89) (.c (.s (.bool false)))), some (81, false)⟩,
    ⟨some 91, (.pick (.t 81) (.c (.s (.bool true))) (.t 90)), none⟩] [] [])
  (.cond (.t 91)
    (.seq (.region [
      ⟨some 5, (.move (.c (.s (.bool true)))), none⟩] [] [])
    .ret)
    .skip))
  (.seq (.seq (.region [
    ⟨some 92, (.fieldAddr 0 (.t 6)), none⟩,
    ⟨some 93, (.load false 1 (.t 92)), none⟩,
    ⟨some 94, (.move (.t 93)), none⟩,
    ⟨some 95, (.fieldAddr 1 (.t 4)), some (94, true)⟩,
    ⟨some 96, (.load false 1 (.t 95)), some (94, true)⟩,
    ⟨some 97, (.bin .eql (.t 96) (.c (.s (.string ⟨#[]⟩)))), some (94, true)⟩,
    ⟨some 98, (.pick (.t 94) (.t 97) (.c (.s (.bool false)))), none⟩,
    ⟨some 99, (.move (.t 98)), none⟩,
    ⟨some 100, (.fieldAddr 0 (.t 4)), some (99, true)⟩,
    ⟨some 101, (.load false 1 (.t 100)), some (99, true)⟩,
    ⟨some 102, (.call (.c (.fn 46 [] [])) [(.t 101)]), some (99, true)⟩,
    ⟨some 103, (.un .not (.t 102)), some (99, true)⟩,
    ⟨some 104, (.pick (.t 99) (.t 103) (.c (.s (.bool false)))), none⟩,
    ⟨some 105, (.move (.t 104)), none⟩,
    ⟨some 106, (.fieldAddr 1 (.t 6)), some (105, false)⟩,
    ⟨some 107, (.load false 1 (.t 106)), some (105, false)⟩,
    ⟨some 108, (.move (.t 107)), some (105, false)⟩,
    ⟨some 109, (.fieldAddr 2 (.t 4)), some (108, true)⟩,
    ⟨some 110, (.load false 1 (.t 109)), some (108, true)⟩,
    ⟨some 111, (.bin .eql (.t 110) (.c (.s (.string ⟨#[]⟩)))), some (108, true)⟩,
    ⟨some 112, (.pick (.t 108) (.t 111) (.c (.s (.bool false)))), some (105, false)⟩,
    ⟨some 113, (.move (.t 112)), some (105, false)⟩,
    ⟨some 114, (.fieldAddr 0 (.t 4)), some (113, true)⟩,
    ⟨some 115, (.load false 1 (.t 114)), some (113, true)⟩,
    ⟨some 116, (.bin .neq (.t 115) (.c (.s (.int .u8 14)))), some (113, true)⟩,
    ⟨some 117, (.pick (.t 113) (.t 116) (.c (.s (.bool false)))), some (105, false)⟩,
    ⟨some 118, (.pick (.t 105) (.c (.s (.bool true))) (.t 117)), none⟩,
    ⟨some 119, (.move (.t 118)), none⟩,
    ⟨some 120, (.fieldAddr 2 (.t 6)), some (119, false)⟩,
    ⟨some 121, (.load false 1 (.t 120)), some (119, false)⟩,
    ⟨some 122, (.move (.t 121)), some (119, false)⟩,
    ⟨some 123, (.fieldAddr 3 (.t 4)), some (122, true)⟩,
    ⟨some 124, (.load false 1 (.t 123)), some (122, true)⟩,
    ⟨some 125, (.bin .eql (.t 124) (.c (.s (.string ⟨#[]⟩)))), some (122, true)⟩,
    ⟨some 126, (.pick (.t 122) (.t 125) (.c (.s (.bool false)))), some (119, false)⟩,
    ⟨some 127, (.pick (.t 119) (.c (.s (.bool true))) (.t 126)), none⟩,
    ⟨some 128, (.move (.t 127)), none⟩,
    ⟨some 129, (.fieldAddr 4 (.t 6)), some (128, false)⟩,
    ⟨some 130, (.load false 1 (.t 129)), some (128, false)⟩,
    ⟨some 131, (.move (.t 130)), some (128, false)⟩,
    ⟨some 132, (.fieldAddr 5 (.t 4)), some (131, true)⟩,
    ⟨some 133, (.load false 1 (.t 132)), some (131, true)⟩,
    ⟨some 134, (.bin .eql (.t 133) (.c (.s (.string ⟨#[]⟩)))), some (131, true)⟩,
    ⟨some 135, (.pick (.t 131) (.t 134) (.c (.s (.bool false)))), some (128, false)⟩,
    ⟨some 136, (.pick (.t 128) (.c (.s (.bool true))) (.t 135)), none⟩] [] [])
  (.cond (.t 136)
    (.seq (.region [
      ⟨some 5, (.move (.c (.s (.bool true)))), none⟩] [] [])
    .ret)
    .skip))
  (.seq (.seq (.region [
    ⟨some 137, (.fieldAddr 0 (.t 4)), none⟩,
    ⟨some 138, (.load false 1 (.t 137)), none⟩] [] [])
  (.block 0
    (.seq (.seq (.region [
      ⟨some 140, (.bin .eql (.t 138) (.c (.s (.int .u8 1)))), none⟩,
      ⟨some 139, (.move (.t 140)), none⟩] [] [])
    (.cond (.t 139)
      .skip
      (.region [
        ⟨some 141, (.bin .eql (.t 138) (.c (.s (.int .u8 2)))), none⟩,
        ⟨some 139, (.move (.t 141)), none⟩] [] [])))
    (.cond (.t 139)
      (.seq (.region [
        ⟨some 142, (.fieldAddr 4 (.t 4)), none⟩,
        ⟨some 143, (.load false 1 (.t 142)), none⟩,
        ⟨some 144, (.bin .lss (.t 143) (.c (.s (.int .i64 1)))), none⟩,
        ⟨some 145, (.move (.t 144)), none⟩,
        ⟨some 146, (.fieldAddr 4 (.t 4)), some (145, false)⟩,
        ⟨some 147, (.load false 1 (.t 146)), some (145, false)⟩,
        ⟨some 148, (.bin .gtr (.t 147) (.c (.s (.int .i64 64)))), some (145, false)⟩,
        ⟨some 149, (.pick (.t 145) (.c (.s (.bool true))) (.t 148)), none⟩,
        ⟨some 5, (.move (.t 149)), none⟩] [] [])
      .ret)
      (.seq (.region [
        ⟨some 151, (.bin .eql (.t 138) (.c (.s (.int .u8 7)))), none⟩,
        ⟨some 150, (.move (.t 151)), none⟩] [] [])
      (.cond (.t 150)
        (.seq (.region [
          ⟨some 152, (.fieldAddr 4 (.t 4)), none⟩,
          ⟨some 153, (.load false 1 (.t 152)), none⟩,
          ⟨some 154, (.bin .lss (.t 153) (.c (.s (.int .i64 0)))), none⟩,
          ⟨some 155, (.move (.t 154)), none⟩,
          ⟨some 156, (.fieldAddr 4 (.t 4)), some (155, false)⟩,
          ⟨some 157, (.load false 1 (.t 156)), some (155, false)⟩,
          ⟨some 158, (.bin .geq (.t 157) (.c (.s (.int .i64 64)))), some (155, false)⟩,
          ⟨some 159, (.pick (.t 155) (.c (.s (.bool true))) (.t 158)), none⟩,
          ⟨some 5, (.move (.t 159)), none⟩] [] [])
        .ret)
        (.seq (.region [
          ⟨some 161, (.bin .eql (.t 138) (.c (.s (.int .u8 6)))), none⟩,
          ⟨some 160, (.move (.t 161)), none⟩] [] [])
        (.cond (.t 160)
          (.seq (.region [
            ⟨some 162, (.fieldAddr 6 (.t 4)), none⟩,
            ⟨some 163, (.load false 1 (.t 162)), none⟩,
            ⟨some 164, (.lenS .s (.t 163)), none⟩,
            ⟨some 165, (.bin .eql (.t 164) (.c (.s (.int .i64 0)))), none⟩,
            ⟨some 166, (.move (.t 165)), none⟩,
            ⟨some 167, (.fieldAddr 6 (.t 4)), some (166, false)⟩,
            ⟨some 168, (.load false 1 (.t 167)), some (166, false)⟩,
            ⟨some 169, (.lenS .s (.t 168)), some (166, false)⟩,
            ⟨some 170, (.fieldAddr 7 (.t 4)), some (166, false)⟩,
            ⟨some 171, (.load false 1 (.t 170)), some (166, false)⟩,
            ⟨some 172, (.lenS .s (.t 171)), some (166, false)⟩,
            ⟨some 173, (.bin .neq (.t 169) (.t 172)), some (166, false)⟩,
            ⟨some 174, (.pick (.t 166) (.c (.s (.bool true))) (.t 173)), none⟩,
            ⟨some 5, (.move (.t 174)), none⟩] [] [])
          .ret)
          (.seq (.region [
            ⟨some 176, (.bin .eql (.t 138) (.c (.s (.int .u8 12)))), none⟩,
            ⟨some 175, (.move (.t 176)), none⟩] [] [])
          (.cond (.t 175)
            (.seq (.region [
              ⟨some 177, (.fieldAddr 7 (.t 4)), none⟩,
              ⟨some 178, (.load false 1 (.t 177)), none⟩,
              ⟨some 179, (.lenS .s (.t 178)), none⟩,
              ⟨some 180, (.bin .neq (.t 179) (.c (.s (.int .i64 2)))), none⟩,
              ⟨some 5, (.move (.t 180)), none⟩] [] [])
            .ret)
            (.seq (.region [
              ⟨some 182, (.bin .eql (.t 138) (.c (.s (.int .u8 13)))), none⟩,
              ⟨some 181, (.move (.t 182)), none⟩] [] [])
            (.cond (.t 181)
              (.seq (.region [
                ⟨some 183, (.fieldAddr 7 (.t 4)), none⟩,
                ⟨some 184, (.load false 1 (.t 183)), none⟩,
                ⟨some 185, (.lenS .s (.t 184)), none⟩,
                ⟨some 186, (.bin .neq (.t 185) (.c (.s (.int .i64 1)))), none⟩,
                ⟨some 5, (.move (.t 186)), none⟩] [] [])
              .ret)
              .skip))))))))))))
  (.seq (.region [
    ⟨some 5, (.move (.c (.s (.bool false)))), none⟩] [] [])
  .ret)))))) }
/- 51 gnomon/names.ends -/
def c_names_ends : ACFun := { ntmps := 13, results := [(.tmp 2)], body :=
  (.seq (.region [
    ⟨some 2, (.move (.c (.s (.bool false)))), none⟩] [] [])
  (.seq (.region [
    ⟨some 3, (.move (.t 0)), none⟩,
    ⟨some 4, (.bin .eql (.t 3) (.c (.s (.int .u8 12)))), none⟩,
    ⟨some 5, (.move (.t 4)), none⟩,
    ⟨some 6, (.move (.t 0)), some (5, false)⟩,
    ⟨some 7, (.bin .eql (.t 6) (.c (.s (.int .u8 13)))), some (5, false)⟩,
    ⟨some 8, (.pick (.t 5) (.c (.s (.bool true))) (.t 7)), none⟩,
    ⟨some 9, (.move (.t 8)), none⟩,
    ⟨some 10, (.move (.t 0)), some (9, false)⟩,
    ⟨some 11, (.bin .eql (.t 10) (.c (.s (.int .u8 14)))), some (9, false)⟩,
    ⟨some 12, (.pick (.t 9) (.c (.s (.bool true))) (.t 11)), none⟩,
    ⟨some 2, (.move (.t 12)), none⟩] [] [])
  .ret)) }
/- 52 (*gnomon/names.walk).badPhi$1 -/
def c_names_walk_badPhi_1 : ACFun := { ntmps := 37, results := [(.tmp 5)], body :=
  (.seq (.region [
    ⟨some 3, (.box (.t 0)), none⟩,
    ⟨some 4, (.box (.t 1)), none⟩,
    ⟨some 5, (.move (.c (.s (.bool false)))), none⟩] [] [])
  (.seq (.region [
    ⟨some 7, (.load false 1 (.t 2)), none⟩,
    ⟨some 8, (.nilCheck (.t 7)), none⟩,
    ⟨some 9, (.fieldAddr 0 (.t 8)), none⟩,
    ⟨some 10, (.fieldAddr 0 (.t 9)), none⟩,
    ⟨some 11, (.load false 1 (.t 10)), none⟩,
    ⟨some 12, (.fieldAddr 0 (.t 3)), none⟩,
    ⟨some 13, (.load false 1 (.t 12)), none⟩,
    ⟨some 14, (.indexAddr 3 (.t 11) (.t 13)), none⟩,
    ⟨some 15, (.fieldAddr 2 (.t 14)), none⟩,
    ⟨some 16, (.load false 1 (.t 15)), none⟩,
    ⟨some 17, (.fieldAddr 1 (.t 3)), none⟩,
    ⟨some 18, (.load false 1 (.t 17)), none⟩,
    ⟨some 19, (.indexAddr 2 (.t 16) (.t 18)), none⟩,
    ⟨some 20, (.fieldAddr 1 (.t 19)), none⟩,
    ⟨some 21, (.load false 1 (.t 20)), none⟩,
    ⟨some 22, (.fieldAddr 2 (.t 3)), none⟩,
    ⟨some 23, (.load false 1 (.t 22)), none⟩,
    ⟨some 24, (.subSl 8 (.t 21) none (some (.t 23)) none), none⟩,
    ⟨some 6, (.move (.t 24)), none⟩] [] [])
  (.seq (.region [
    ⟨some 25, (.fieldAddr 0 (.t 4)), none⟩,
    ⟨some 26, (.load false 1 (.t 25)), none⟩,
    ⟨some 27, (.bin .eql (.t 26) (.c (.s (.int .u8 6)))), none⟩,
    ⟨some 28, (.move (.t 27)), none⟩,
    ⟨some 29, (.fieldAddr 1 (.t 3)), some (28, true)⟩,
    ⟨some 30, (.load false 1 (.t 29)), some (28, true)⟩,
    ⟨some 31, (.bin .eql (.t 30) (.c (.s (.int .i64 0)))), some (28, true)⟩,
    ⟨some 32, (.move (.t 31)), some (28, true)⟩,
    ⟨some 33, (.move (.t 6)), some (32, false)⟩,
    ⟨some 34, (.call (.c (.fn 53 [] [])) [(.t 33), (.c (.fn 54 [] []))]), some (32, false)⟩,
    ⟨some 35, (.pick (.t 32) (.c (.s (.bool true))) (.t 34)), some (28, true)⟩,
    ⟨some 36, (.pick (.t 28) (.t 35) (.c (.s (.bool false)))), none⟩,
    ⟨some 5, (.move (.t 36)), none⟩] [] [])
  .ret))) }
/- 53 slices.ContainsFunc[[]gnomon/api.Instr,gnomon/api.Instr] -/
def c_slices_ContainsFunc_api_Instr_api_Instr : ACFun := { ntmps := 9, results := [(.tmp 4)], body :=
  (.seq (.region [
    ⟨some 4, (.move (.c (.s (.bool false)))), none⟩] [] [])
  (.seq (.region [
    ⟨some 5, (.move (.t 0)), none⟩,
    ⟨some 6, (.move (.t 1)), none⟩,
    ⟨some 7, (.call (.c (.fn 68 [] [])) [(.t 5), (.t 6)]), none⟩,
    ⟨some 8, (.bin .geq (.t 7) (.c (.s (.int .i64 0)))), none⟩,
    ⟨some 4, (.move (.t 8)), none⟩] [] [])
  .ret)) }
/- 54 (*gnomon/names.walk).badPhi$1$1 -/
def c_names_walk_badPhi_1_1 : ACFun := { ntmps := 6, results := [(.tmp 2)], body :=
  (.seq (.region [
    ⟨some 1, (.box (.t 0)), none⟩,
    ⟨some 2, (.move (.c (.s (.bool false)))), none⟩] [] [])
  (.seq (.region [
    ⟨some 3, (.fieldAddr 0 (.t 1)), none⟩,
    ⟨some 4, (.load false 1 (.t 3)), none⟩,
    ⟨some 5, (.bin .neq (.t 4) (.c (.s (.int .u8 6)))), none⟩,
    ⟨some 2, (.move (.t 5)), none⟩] [] [])
  .ret)) }
/- 55 (*gnomon/names.walk).noLabel$1 -/
def c_names_walk_noLabel_1 : ACFun := { ntmps := 10, results := [(.tmp 5)], body :=
  (.seq (.region [
    ⟨some 3, (.box (.t 0)), none⟩,
    ⟨some 4, (.box (.t 1)), none⟩,
    ⟨some 5, (.move (.c (.s (.bool false)))), none⟩] [] [])
  (.seq (.region [
    ⟨some 6, (.fieldAddr 7 (.t 4)), none⟩,
    ⟨some 7, (.load false 1 (.t 6)), none⟩,
    ⟨some 8, (.mkFn 56 [] [(.t 2), (.t 3)]), none⟩,
    ⟨some 9, (.call (.c (.fn 39 [] [])) [(.t 7), (.t 8)]), none⟩,
    ⟨some 5, (.move (.t 9)), none⟩] [] [])
  .ret)) }
/- 56 (*gnomon/names.walk).noLabel$1$1 -/
def c_names_walk_noLabel_1_1 : ACFun := { ntmps := 18, results := [(.tmp 4)], body :=
  (.seq (.region [
    ⟨some 3, (.box (.t 0)), none⟩,
    ⟨some 4, (.move (.c (.s (.bool false)))), none⟩] [] [])
  (.seq (.region [
    ⟨some 5, (.load false 1 (.t 1)), none⟩,
    ⟨some 6, (.nilCheck (.t 5)), none⟩,
    ⟨some 7, (.fieldAddr 0 (.t 6)), none⟩,
    ⟨some 8, (.fieldAddr 0 (.t 7)), none⟩,
    ⟨some 9, (.load false 1 (.t 8)), none⟩,
    ⟨some 10, (.fieldAddr 0 (.t 2)), none⟩,
    ⟨some 11, (.load false 1 (.t 10)), none⟩,
    ⟨some 12, (.indexAddr 3 (.t 9) (.t 11)), none⟩,
    ⟨some 13, (.fieldAddr 2 (.t 12)), none⟩,
    ⟨some 14, (.load false 1 (.t 13)), none⟩,
    ⟨some 15, (.mkFn 58 [] [(.t 3)]), none⟩,
    ⟨some 16, (.call (.c (.fn 57 [] [])) [(.t 14), (.t 15)]), none⟩,
    ⟨some 17, (.un .not (.t 16)), none⟩,
    ⟨some 4, (.move (.t 17)), none⟩] [] [])
  .ret)) }
/- 57 slices.ContainsFunc[[]gnomon/api.Block,gnomon/api.Block] -/
def c_slices_ContainsFunc_api_Block_api_Block : ACFun := { ntmps := 9, results := [(.tmp 4)], body :=
  (.seq (.region [
    ⟨some 4, (.move (.c (.s (.bool false)))), none⟩] [] [])
  (.seq (.region [
    ⟨some 5, (.move (.t 0)), none⟩,
    ⟨some 6, (.move (.t 1)), none⟩,
    ⟨some 7, (.call (.c (.fn 69 [] [])) [(.t 5), (.t 6)]), none⟩,
    ⟨some 8, (.bin .geq (.t 7) (.c (.s (.int .i64 0)))), none⟩,
    ⟨some 4, (.move (.t 8)), none⟩] [] [])
  .ret)) }
/- 58 (*gnomon/names.walk).noLabel$1$1$1 -/
def c_names_walk_noLabel_1_1_1 : ACFun := { ntmps := 8, results := [(.tmp 3)], body :=
  (.seq (.region [
    ⟨some 2, (.box (.t 0)), none⟩,
    ⟨some 3, (.move (.c (.s (.bool false)))), none⟩] [] [])
  (.seq (.region [
    ⟨some 4, (.fieldAddr 0 (.t 2)), none⟩,
    ⟨some 5, (.load false 1 (.t 4)), none⟩,
    ⟨some 6, (.load false 1 (.t 1)), none⟩,
    ⟨some 7, (.bin .eql (.t 5) (.t 6)), none⟩,
    ⟨some 3, (.move (.t 7)), none⟩] [] [])
  .ret)) }
/- 59 (*gnomon/names.walk).noFunc$1 -/
def c_names_walk_noFunc_1 : ACFun := { ntmps := 21, results := [(.tmp 5)], body :=
  (.seq (.region [
    ⟨some 3, (.box (.t 0)), none⟩,
    ⟨some 4, (.box (.t 1)), none⟩,
    ⟨some 5, (.move (.c (.s (.bool false)))), none⟩] [] [])
  (.seq (.region [
    ⟨some 6, (.fieldAddr 0 (.t 4)), none⟩,
    ⟨some 7, (.load false 1 (.t 6)), none⟩,
    ⟨some 8, (.bin .eql (.t 7) (.c (.s (.int .u8 10)))), none⟩,
    ⟨some 9, (.move (.t 8)), none⟩,
    ⟨some 10, (.fieldAddr 0 (.t 4)), some (9, false)⟩,
    ⟨some 11, (.load false 1 (.t 10)), some (9, false)⟩,
    ⟨some 12, (.bin .eql (.t 11) (.c (.s (.int .u8 4)))), some (9, false)⟩,
    ⟨some 13, (.pick (.t 9) (.c (.s (.bool true))) (.t 12)), none⟩,
    ⟨some 14, (.move (.t 13)), none⟩,
    ⟨some 15, (.load false 1 (.t 2)), some (14, true)⟩,
    ⟨some 16, (.fieldAddr 5 (.t 4)), some (14, true)⟩,
    ⟨some 17, (.load false 1 (.t 16)), some (14, true)⟩,
    ⟨some 18, (.call (.c (.fn 45 [] [])) [(.t 15), (.t 17)]), some (14, true)⟩,
    ⟨some 19, (.bin .lss (.t 18) (.c (.s (.int .i64 0)))), some (14, true)⟩,
    ⟨some 20, (.pick (.t 14) (.t 19) (.c (.s (.bool false)))), none⟩,
    ⟨some 5, (.move (.t 20)), none⟩] [] [])
  .ret)) }
/- 60 (*gnomon/names.walk).arity$1 -/
def c_names_walk_arity_1 : ACFun := { ntmps := 34, results := [(.tmp 5)], body :=
  (.seq (.region [
    ⟨some 3, (.box (.t 0)), none⟩,
    ⟨some 4, (.box (.t 1)), none⟩,
    ⟨some 5, (.move (.c (.s (.bool false)))), none⟩] [] [])
  (.seq (.region [
    ⟨some 7, (.load false 1 (.t 2)), none⟩,
    ⟨some 8, (.fieldAddr 5 (.t 4)), none⟩,
    ⟨some 9, (.load false 1 (.t 8)), none⟩,
    ⟨some 10, (.call (.c (.fn 45 [] [])) [(.t 7), (.t 9)]), none⟩,
    ⟨some 6, (.move (.t 10)), none⟩] [] [])
  (.seq (.region [
    ⟨some 11, (.fieldAddr 0 (.t 4)), none⟩,
    ⟨some 12, (.load false 1 (.t 11)), none⟩,
    ⟨some 13, (.bin .eql (.t 12) (.c (.s (.int .u8 10)))), none⟩,
    ⟨some 14, (.move (.t 13)), none⟩,
    ⟨some 15, (.move (.t 6)), some (14, true)⟩,
    ⟨some 16, (.bin .geq (.t 15) (.c (.s (.int .i64 0)))), some (14, true)⟩,
    ⟨some 17, (.pick (.t 14) (.t 16) (.c (.s (.bool false)))), none⟩,
    ⟨some 18, (.move (.t 17)), none⟩,
    ⟨some 19, (.load false 1 (.t 2)), some (18, true)⟩,
    ⟨some 20, (.nilCheck (.t 19)), some (18, true)⟩,
    ⟨some 21, (.fieldAddr 0 (.t 20)), some (18, true)⟩,
    ⟨some 22, (.fieldAddr 0 (.t 21)), some (18, true)⟩,
    ⟨some 23, (.load false 1 (.t 22)), some (18, true)⟩,
    ⟨some 24, (.move (.t 6)), some (18, true)⟩,
    ⟨some 25, (.indexAddr 3 (.t 23) (.t 24)), some (18, true)⟩,
    ⟨some 26, (.fieldAddr 1 (.t 25)), some (18, true)⟩,
    ⟨some 27, (.load false 1 (.t 26)), some (18, true)⟩,
    ⟨some 28, (.lenS .s (.t 27)), some (18, true)⟩,
    ⟨some 29, (.fieldAddr 6 (.t 4)), some (18, true)⟩,
    ⟨some 30, (.load false 1 (.t 29)), some (18, true)⟩,
    ⟨some 31, (.lenS .s (.t 30)), some (18, true)⟩,
    ⟨some 32, (.bin .neq (.t 28) (.t 31)), some (18, true)⟩,
    ⟨some 33, (.pick (.t 18) (.t 32) (.c (.s (.bool false)))), none⟩,
    ⟨some 5, (.move (.t 33)), none⟩] [] [])
  .ret))) }
/- 61 (*gnomon/names.walk).noVar$1 -/
def c_names_walk_noVar_1 : ACFun := { ntmps := 8, results := [(.tmp 3)], body :=
  (.seq (.region [
    ⟨some 3, (.move (.c (.s (.bool false)))), none⟩] [] [])
  (.seq (.region [
    ⟨some 4, (.load false 1 (.t 1)), none⟩,
    ⟨some 5, (.move (.t 0)), none⟩,
    ⟨some 6, (.mapGet .string (.s (.bool false)) (.t 4) (.t 5) false), none⟩,
    ⟨some 7, (.un .not (.t 6)), none⟩,
    ⟨some 3, (.move (.t 7)), none⟩] [] [])
  .ret)) }
/- 62 slices.IndexFunc[[]string,string] -/
def c_slices_IndexFunc_string_string_l0 : ACode :=
  (.seq (.region [
    ⟨some 9, (.bin .lss (.t 8) (.t 7)), none⟩] [] [])
  (.seq (.cond (.t 9)
    .skip
    (.exit 0))
  (.seq (.block 1
    (.seq (.region [
      ⟨some 10, (.move (.t 8)), none⟩,
      ⟨some 5, (.move (.t 10)), none⟩] [] [])
    (.seq (.region [
      ⟨some 11, (.move (.t 1)), none⟩,
      ⟨some 12, (.move (.t 0)), none⟩,
      ⟨some 13, (.move (.t 5)), none⟩,
      ⟨some 14, (.indexAddr 1 (.t 12) (.t 13)), none⟩,
      ⟨some 15, (.load false 1 (.t 14)), none⟩,
      ⟨some 16, (.call (.t 11) [(.t 15)]), none⟩] [] [])
    (.cond (.t 16)
      (.seq (.region [
        ⟨some 17, (.move (.t 5)), none⟩,
        ⟨some 4, (.move (.t 17)), none⟩] [] [])
      .ret)
      .skip))))
  (.region [
    ⟨some 18, (.bin .add (.t 8) (.c (.s (.int .i64 1)))), none⟩,
    ⟨some 8, (.move (.t 18)), none⟩] [] []))))
def c_slices_IndexFunc_string_string_k0 : List Nat := [9, 10, 5, 11, 12, 13, 14, 15, 16, 17, 18]
def c_slices_IndexFunc_string_string : ACFun := { ntmps := 19, results := [(.tmp 4)], body :=
  (.seq (.region [
    ⟨some 4, (.move (.c (.s (.int .i64 0)))), none⟩] [] [])
  (.seq (.seq (.region [
    ⟨some 6, (.move (.t 0)), none⟩,
    ⟨some 7, (.lenS .s (.t 6)), none⟩,
    ⟨some 8, (.move (.c (.s (.int .i64 0)))), none⟩] [] [])
  (.block 0
    (.loop c_slices_IndexFunc_string_string_k0 c_slices_IndexFunc_string_string_l0)))
  (.seq (.region [
    ⟨some 4, (.move (.c (.s (.int .i64 (-1))))), none⟩] [] [])
  .ret))) }
/- 63 gnomon/names.bad$1 -/
def c_names_bad_1 : ACFun := { ntmps := 19, results := [(.tmp 3)], body :=
  (.seq (.region [
    ⟨some 3, (.move (.c (.s (.bool false)))), none⟩] [] [])
  (.seq (.region [
    ⟨some 4, (.move (.t 0)), none⟩,
    ⟨some 5, (.bin .neq (.t 4) (.c (.s (.string ⟨#[]⟩)))), none⟩,
    ⟨some 6, (.move (.t 5)), none⟩,
    ⟨some 7, (.move (.t 0)), some (6, true)⟩,
    ⟨some 8, (.call (.c (.fn 7 [] [])) [(.t 7)]), some (6, true)⟩,
    ⟨some 9, (.un .not (.t 8)), some (6, true)⟩,
    ⟨some 10, (.pick (.t 6) (.t 9) (.c (.s (.bool false)))), none⟩,
    ⟨some 11, (.move (.t 10)), none⟩,
    ⟨some 12, (.load false 1 (.t 1)), some (11, true)⟩,
    ⟨some 13, (.move (.t 12)), some (11, true)⟩,
    ⟨some 14, (.move (.t 0)), some (13, true)⟩,
    ⟨some 15, (.bin .eql (.t 14) (.c (.s (.string ⟨#[110, 117, 108, 108]⟩)))), some (13, true)⟩,
    ⟨some 16, (.pick (.t 13) (.t 15) (.c (.s (.bool false)))), some (11, true)⟩,
    ⟨some 17, (.un .not (.t 16)), some (11, true)⟩,
    ⟨some 18, (.pick (.t 11) (.t 17) (.c (.s (.bool false)))), none⟩,
    ⟨some 3, (.move (.t 18)), none⟩] [] [])
  .ret)) }
/- 64 slices.Index[[]string,string] -/
def c_slices_Index_string_string_l0 : ACode :=
  (.seq (.region [
    ⟨some 9, (.bin .lss (.t 8) (.t 7)), none⟩] [] [])
  (.seq (.cond (.t 9)
    .skip
    (.exit 0))
  (.seq (.block 1
    (.seq (.region [
      ⟨some 10, (.move (.t 8)), none⟩,
      ⟨some 5, (.move (.t 10)), none⟩] [] [])
    (.seq (.region [
      ⟨some 11, (.move (.t 1)), none⟩,
      ⟨some 12, (.move (.t 0)), none⟩,
      ⟨some 13, (.move (.t 5)), none⟩,
      ⟨some 14, (.indexAddr 1 (.t 12) (.t 13)), none⟩,
      ⟨some 15, (.load false 1 (.t 14)), none⟩,
      ⟨some 16, (.bin .eql (.t 11) (.t 15)), none⟩] [] [])
    (.cond (.t 16)
      (.seq (.region [
        ⟨some 17, (.move (.t 5)), none⟩,
        ⟨some 4, (.move (.t 17)), none⟩] [] [])
      .ret)
      .skip))))
  (.region [
    ⟨some 18, (.bin .add (.t 8) (.c (.s (.int .i64 1)))), none⟩,
    ⟨some 8, (.move (.t 18)), none⟩] [] []))))
def c_slices_Index_string_string_k0 : List Nat := [9, 10, 5, 11, 12, 13, 14, 15, 16, 17, 18]
def c_slices_Index_string_string : ACFun := { ntmps := 19, results := [(.tmp 4)], body :=
  (.seq (.region [
    ⟨some 4, (.move (.c (.s (.int .i64 0)))), none⟩] [] [])
  (.seq (.seq (.region [
    ⟨some 6, (.move (.t 0)), none⟩,
    ⟨some 7, (.lenS .s (.t 6)), none⟩,
    ⟨some 8, (.move (.c (.s (.int .i64 0)))), none⟩] [] [])
  (.block 0
    (.loop c_slices_Index_string_string_k0 c_slices_Index_string_string_l0)))
  (.seq (.region [
    ⟨some 4, (.move (.c (.s (.int .i64 (-1))))), none⟩] [] [])
  .ret))) }
/- 65 slices.IndexFunc[[]gnomon/api.Func,gnomon/api.Func] -/
def c_slices_IndexFunc_api_Func_api_Func_l0 : ACode :=
  (.seq (.region [
    ⟨some 9, (.bin .lss (.t 8) (.t 7)), none⟩] [] [])
  (.seq (.cond (.t 9)
    .skip
    (.exit 0))
  (.seq (.block 1
    (.seq (.region [
      ⟨some 10, (.move (.t 8)), none⟩,
      ⟨some 5, (.move (.t 10)), none⟩] [] [])
    (.seq (.region [
      ⟨some 11, (.move (.t 1)), none⟩,
      ⟨some 12, (.move (.t 0)), none⟩,
      ⟨some 13, (.move (.t 5)), none⟩,
      ⟨some 14, (.indexAddr 3 (.t 12) (.t 13)), none⟩,
      ⟨some 15, (.load true 3 (.t 14)), none⟩,
      ⟨some 16, (.call (.t 11) [(.t 15)]), none⟩] [] [])
    (.cond (.t 16)
      (.seq (.region [
        ⟨some 17, (.move (.t 5)), none⟩,
        ⟨some 4, (.move (.t 17)), none⟩] [] [])
      .ret)
      .skip))))
  (.region [
    ⟨some 18, (.bin .add (.t 8) (.c (.s (.int .i64 1)))), none⟩,
    ⟨some 8, (.move (.t 18)), none⟩] [] []))))
def c_slices_IndexFunc_api_Func_api_Func_k0 : List Nat := [9, 10, 5, 11, 12, 13, 14, 15, 16, 17, 18]
def c_slices_IndexFunc_api_Func_api_Func : ACFun := { ntmps := 19, results := [(.tmp 4)], body :=
  (.seq (.region [
    ⟨some 4, (.move (.c (.s (.int .i64 0)))), none⟩] [] [])
  (.seq (.seq (.region [
    ⟨some 6, (.move (.t 0)), none⟩,
    ⟨some 7, (.lenS .s (.t 6)), none⟩,
    ⟨some 8, (.move (.c (.s (.int .i64 0)))), none⟩] [] [])
  (.block 0
    (.loop c_slices_IndexFunc_api_Func_api_Func_k0 c_slices_IndexFunc_api_Func_api_Func_l0)))
  (.seq (.region [
    ⟨some 4, (.move (.c (.s (.int .i64 (-1))))), none⟩] [] [])
  .ret))) }
/- 66 (*gnomon/names.walk).named$1 -/
def c_names_walk_named_1 : ACFun := { ntmps := 8, results := [(.tmp 3)], body :=
  (.seq (.region [
    ⟨some 2, (.box (.t 0)), none⟩,
    ⟨some 3, (.move (.c (.s (.bool false)))), none⟩] [] [])
  (.seq (.region [
    ⟨some 4, (.fieldAddr 0 (.t 2)), none⟩,
    ⟨some 5, (.load false 1 (.t 4)), none⟩,
    ⟨some 6, (.load false 1 (.t 1)), none⟩,
    ⟨some 7, (.bin .eql (.t 5) (.t 6)), none⟩,
    ⟨some 3, (.move (.t 7)), none⟩] [] [])
  .ret)) }
/- 67 (*gnomon/names.walk).code -/
def c_names_walk_code : ACFun := { ntmps := 4, results := [(.tmp 2)], body :=
  (.seq (.region [
    ⟨some 1, (.box (.t 0)), none⟩,
    ⟨some 2, (.move (.c (.s .nilFunc))), none⟩] [] [])
  (.seq (.region [
    ⟨some 3, (.mkFn 70 [] [(.t 1)]), none⟩,
    ⟨some 2, (.move (.t 3)), none⟩] [] [])
  .ret)) }
/- 68 slices.IndexFunc[[]gnomon/api.Instr,gnomon/api.Instr] -/
def c_slices_IndexFunc_api_Instr_api_Instr_l0 : ACode :=
  (.seq (.region [
    ⟨some 9, (.bin .lss (.t 8) (.t 7)), none⟩] [] [])
  (.seq (.cond (.t 9)
    .skip
    (.exit 0))
  (.seq (.block 1
    (.seq (.region [
      ⟨some 10, (.move (.t 8)), none⟩,
      ⟨some 5, (.move (.t 10)), none⟩] [] [])
    (.seq (.region [
      ⟨some 11, (.move (.t 1)), none⟩,
      ⟨some 12, (.move (.t 0)), none⟩,
      ⟨some 13, (.move (.t 5)), none⟩,
      ⟨some 14, (.indexAddr 8 (.t 12) (.t 13)), none⟩,
      ⟨some 15, (.load true 8 (.t 14)), none⟩,
      ⟨some 16, (.call (.t 11) [(.t 15)]), none⟩] [] [])
    (.cond (.t 16)
      (.seq (.region [
        ⟨some 17, (.move (.t 5)), none⟩,
        ⟨some 4, (.move (.t 17)), none⟩] [] [])
      .ret)
      .skip))))
  (.region [
    ⟨some 18, (.bin .add (.t 8) (.c (.s (.int .i64 1)))), none⟩,
    ⟨some 8, (.move (.t 18)), none⟩] [] []))))
def c_slices_IndexFunc_api_Instr_api_Instr_k0 : List Nat := [9, 10, 5, 11, 12, 13, 14, 15, 16, 17, 18]
def c_slices_IndexFunc_api_Instr_api_Instr : ACFun := { ntmps := 19, results := [(.tmp 4)], body :=
  (.seq (.region [
    ⟨some 4, (.move (.c (.s (.int .i64 0)))), none⟩] [] [])
  (.seq (.seq (.region [
    ⟨some 6, (.move (.t 0)), none⟩,
    ⟨some 7, (.lenS .s (.t 6)), none⟩,
    ⟨some 8, (.move (.c (.s (.int .i64 0)))), none⟩] [] [])
  (.block 0
    (.loop c_slices_IndexFunc_api_Instr_api_Instr_k0 c_slices_IndexFunc_api_Instr_api_Instr_l0)))
  (.seq (.region [
    ⟨some 4, (.move (.c (.s (.int .i64 (-1))))), none⟩] [] [])
  .ret))) }
/- 69 slices.IndexFunc[[]gnomon/api.Block,gnomon/api.Block] -/
def c_slices_IndexFunc_api_Block_api_Block_l0 : ACode :=
  (.seq (.region [
    ⟨some 9, (.bin .lss (.t 8) (.t 7)), none⟩] [] [])
  (.seq (.cond (.t 9)
    .skip
    (.exit 0))
  (.seq (.block 1
    (.seq (.region [
      ⟨some 10, (.move (.t 8)), none⟩,
      ⟨some 5, (.move (.t 10)), none⟩] [] [])
    (.seq (.region [
      ⟨some 11, (.move (.t 1)), none⟩,
      ⟨some 12, (.move (.t 0)), none⟩,
      ⟨some 13, (.move (.t 5)), none⟩,
      ⟨some 14, (.indexAddr 2 (.t 12) (.t 13)), none⟩,
      ⟨some 15, (.load true 2 (.t 14)), none⟩,
      ⟨some 16, (.call (.t 11) [(.t 15)]), none⟩] [] [])
    (.cond (.t 16)
      (.seq (.region [
        ⟨some 17, (.move (.t 5)), none⟩,
        ⟨some 4, (.move (.t 17)), none⟩] [] [])
      .ret)
      .skip))))
  (.region [
    ⟨some 18, (.bin .add (.t 8) (.c (.s (.int .i64 1)))), none⟩,
    ⟨some 8, (.move (.t 18)), none⟩] [] []))))
def c_slices_IndexFunc_api_Block_api_Block_k0 : List Nat := [9, 10, 5, 11, 12, 13, 14, 15, 16, 17, 18]
def c_slices_IndexFunc_api_Block_api_Block : ACFun := { ntmps := 19, results := [(.tmp 4)], body :=
  (.seq (.region [
    ⟨some 4, (.move (.c (.s (.int .i64 0)))), none⟩] [] [])
  (.seq (.seq (.region [
    ⟨some 6, (.move (.t 0)), none⟩,
    ⟨some 7, (.lenS .s (.t 6)), none⟩,
    ⟨some 8, (.move (.c (.s (.int .i64 0)))), none⟩] [] [])
  (.block 0
    (.loop c_slices_IndexFunc_api_Block_api_Block_k0 c_slices_IndexFunc_api_Block_api_Block_l0)))
  (.seq (.region [
    ⟨some 4, (.move (.c (.s (.int .i64 (-1))))), none⟩] [] [])
  .ret))) }
/- 70 (*gnomon/names.walk).code$1 -/
def c_names_walk_code_1_l0 : ACode :=
  (.seq (.region [
    ⟨some 32, (.bin .lss (.t 31) (.t 30)), none⟩] [] [])
  (.seq (.cond (.t 32)
    .skip
    (.exit 4))
  (.seq (.block 5
    (.seq (.region [
      ⟨some 33, (.move (.t 31)), none⟩,
      ⟨some 34, (.indexAddr 8 (.t 29) (.t 31)), none⟩,
      ⟨some 35, (.load true 8 (.t 34)), none⟩,
      ⟨some 8, (.alloc [(.s (.int .u8 0)), (.s (.string ⟨#[]⟩)), (.s (.string ⟨#[]⟩)), (.s (.string ⟨#[]⟩)), (.s (.int .i64 0)), (.s (.string ⟨#[]⟩)), (.s (.slice none 0 0)), (.s (.slice none 0 0))]), none⟩,
      ⟨some 7, (.move (.t 33)), none⟩,
      ⟨none, (.store 8 (.t 8) (.t 35)), none⟩] [] [])
    (.seq (.region [
      ⟨some 36, (.move (.t 0)), none⟩,
      ⟨some 37, (.move (.t 3)), none⟩,
      ⟨some 38, (.move (.t 5)), none⟩,
      ⟨some 39, (.move (.t 7)), none⟩,
      ⟨some 40, (.build [(.s (.int .i64 0)), (.s (.int .i64 0)), (.s (.int .i64 0))] [(0, 1), (1, 1), (2, 1)] [(0, (.t 37)), (1, (.t 38)), (2, (.t 39))]), none⟩,
      ⟨some 41, (.load true 8 (.t 8)), none⟩,
      ⟨some 42, (.call (.t 36) [(.t 40), (.t 41)]), none⟩,
      ⟨some 43, (.un .not (.t 42)), none⟩] [] [])
    (.cond (.t 43)
      .ret
      .skip))))
  (.region [
    ⟨some 44, (.bin .add (.t 31) (.c (.s (.int .i64 1)))), none⟩,
    ⟨some 31, (.move (.t 44)), none⟩] [] []))))
def c_names_walk_code_1_k0 : List Nat := [32, 33, 34, 35, 8, 7, 36, 37, 38, 39, 40, 41, 42, 43, 44]
def c_names_walk_code_1_l1 : ACode :=
  (.seq (.region [
    ⟨some 24, (.bin .lss (.t 23) (.t 22)), none⟩] [] [])
  (.seq (.cond (.t 24)
    .skip
    (.exit 2))
  (.seq (.block 3
    (.seq (.region [
      ⟨some 25, (.move (.t 23)), none⟩,
      ⟨some 26, (.indexAddr 2 (.t 21) (.t 23)), none⟩,
      ⟨some 27, (.load true 2 (.t 26)), none⟩,
      ⟨some 6, (.alloc [(.s (.string ⟨#[]⟩)), (.s (.slice none 0 0))]), none⟩,
      ⟨some 5, (.move (.t 25)), none⟩,
      ⟨none, (.store 2 (.t 6) (.t 27)), none⟩] [] [])
    (.seq (.region [
      ⟨some 28, (.fieldAddr 1 (.t 6)), none⟩,
      ⟨some 29, (.load false 1 (.t 28)), none⟩,
      ⟨some 30, (.lenS .s (.t 29)), none⟩,
      ⟨some 31, (.move (.c (.s (.int .i64 0)))), none⟩] [] [])
    (.block 4
      (.loop c_names_walk_code_1_k0 c_names_walk_code_1_l0)))))
  (.region [
    ⟨some 45, (.bin .add (.t 23) (.c (.s (.int .i64 1)))), none⟩,
    ⟨some 23, (.move (.t 45)), none⟩] [] []))))
def c_names_walk_code_1_k1 : List Nat := [24, 25, 26, 27, 6, 5, 28, 29, 30, 31, 32, 33, 34, 35, 8, 7, 36, 37, 38, 39, 40, 41, 42, 43, 44, 45]
def c_names_walk_code_1_l2 : ACode :=
  (.seq (.region [
    ⟨some 16, (.bin .lss (.t 15) (.t 14)), none⟩] [] [])
  (.seq (.cond (.t 16)
    .skip
    (.exit 0))
  (.seq (.block 1
    (.seq (.region [
      ⟨some 17, (.move (.t 15)), none⟩,
      ⟨some 18, (.indexAddr 3 (.t 13) (.t 15)), none⟩,
      ⟨some 19, (.load true 3 (.t 18)), none⟩,
      ⟨some 4, (.alloc [(.s (.string ⟨#[]⟩)), (.s (.slice none 0 0)), (.s (.slice none 0 0))]), none⟩,
      ⟨some 3, (.move (.t 17)), none⟩,
      ⟨none, (.store 3 (.t 4) (.t 19)), none⟩] [] [])
    (.seq (.region [
      ⟨some 20, (.fieldAddr 2 (.t 4)), none⟩,
      ⟨some 21, (.load false 1 (.t 20)), none⟩,
      ⟨some 22, (.lenS .s (.t 21)), none⟩,
      ⟨some 23, (.move (.c (.s (.int .i64 0)))), none⟩] [] [])
    (.block 2
      (.loop c_names_walk_code_1_k1 c_names_walk_code_1_l1)))))
  (.region [
    ⟨some 46, (.bin .add (.t 15) (.c (.s (.int .i64 1)))), none⟩,
    ⟨some 15, (.move (.t 46)), none⟩] [] []))))
def c_names_walk_code_1_k2 : List Nat := [16, 17, 18, 19, 4, 3, 20, 21, 22, 23, 24, 25, 26, 27, 6, 5, 28, 29, 30, 31, 32, 33, 34, 35, 8, 7, 36, 37, 38, 39, 40, 41, 42, 43, 44, 45, 46]
def c_names_walk_code_1 : ACFun := { ntmps := 47, results := [], body :=
  (.seq (.region [
    ⟨some 9, (.load false 1 (.t 1)), none⟩,
    ⟨some 10, (.nilCheck (.t 9)), none⟩,
    ⟨some 11, (.fieldAddr 0 (.t 10)), none⟩,
    ⟨some 12, (.fieldAddr 0 (.t 11)), none⟩,
    ⟨some 13, (.load false 1 (.t 12)), none⟩,
    ⟨some 14, (.lenS .s (.t 13)), none⟩,
    ⟨some 15, (.move (.c (.s (.int .i64 0)))), none⟩] [] [])
  (.block 0
    (.loop c_names_walk_code_1_k2 c_names_walk_code_1_l2))) }
def CQ : Nat → Option CFun
  | 7 => some (.code c_names_Is)
  | 9 => some (.code c_gnomonlaw05_checks)
  | 11 => some (.code c_names_Check)
  | 12 => some (.code c_names_First)
  | 21 => some (.code c_names_shapes)
  | 22 => some (.code c_names_walk_manyFuncs)
  | 23 => some (.code c_names_walk_badName)
  | 24 => some (.code c_names_walk_twiceFunc)
  | 25 => some (.code c_names_walk_noMain)
  | 26 => some (.code c_names_walk_manyParams)
  | 27 => some (.code c_names_walk_manyBlocks)
  | 28 => some (.code c_names_walk_twiceLabel)
  | 29 => some (.code c_names_walk_manyCode)
  | 30 => some (.code c_names_walk_badInstr)
  | 31 => some (.code c_names_walk_badEnd)
  | 32 => some (.code c_names_walk_badPhi)
  | 33 => some (.code c_names_walk_noLabel)
  | 34 => some (.code c_names_walk_noFunc)
  | 35 => some (.code c_names_walk_arity)
  | 36 => some (.code c_names_walk_twiceVar)
  | 37 => some (.code c_names_walk_noVar)
  | 39 => some (.code c_slices_ContainsFunc_string_string)
  | 40 => some (.code c_names_walk_badName_1)
  | 41 => some (.code c_names_bad)
  | 42 => some (.code c_slices_Contains_string_string)
  | 43 => some (.code c_names_walk_funcs)
  | 44 => some (.code c_names_walk_twiceFunc_1)
  | 45 => some (.code c_names_walk_named)
  | 46 => some (.code c_names_calls)
  | 47 => some (.code c_names_walk_manyBlocks_1)
  | 48 => some (.code c_names_walk_find)
  | 49 => some (.code c_names_walk_manyCode_1)
  | 50 => some (.code c_names_walk_badInstr_1)
  | 51 => some (.code c_names_ends)
  | 52 => some (.code c_names_walk_badPhi_1)
  | 53 => some (.code c_slices_ContainsFunc_api_Instr_api_Instr)
  | 54 => some (.code c_names_walk_badPhi_1_1)
  | 55 => some (.code c_names_walk_noLabel_1)
  | 56 => some (.code c_names_walk_noLabel_1_1)
  | 57 => some (.code c_slices_ContainsFunc_api_Block_api_Block)
  | 58 => some (.code c_names_walk_noLabel_1_1_1)
  | 59 => some (.code c_names_walk_noFunc_1)
  | 60 => some (.code c_names_walk_arity_1)
  | 61 => some (.code c_names_walk_noVar_1)
  | 62 => some (.code c_slices_IndexFunc_string_string)
  | 63 => some (.code c_names_bad_1)
  | 64 => some (.code c_slices_Index_string_string)
  | 65 => some (.code c_slices_IndexFunc_api_Func_api_Func)
  | 66 => some (.code c_names_walk_named_1)
  | 67 => some (.code c_names_walk_code)
  | 68 => some (.code c_slices_IndexFunc_api_Instr_api_Instr)
  | 69 => some (.code c_slices_IndexFunc_api_Block_api_Block)
  | 70 => some (.code c_names_walk_code_1)
  | _ => none
theorem CQ_7 : compK Try.prog (fun _ => false) 7 = some (false, c_names_Is.ntmps, c_names_Is.results, c_names_Is.body.bare) := by kernel_rfl
theorem CQ_9 : compK Try.prog (fun _ => false) 9 = some (false, c_gnomonlaw05_checks.ntmps, c_gnomonlaw05_checks.results, c_gnomonlaw05_checks.body.bare) := by kernel_rfl
theorem CQ_11 : compK Try.prog (fun _ => false) 11 = some (false, c_names_Check.ntmps, c_names_Check.results, c_names_Check.body.bare) := by kernel_rfl
theorem CQ_12 : compK Try.prog (fun _ => false) 12 = some (false, c_names_First.ntmps, c_names_First.results, c_names_First.body.bare) := by kernel_rfl
theorem CQ_21 : compK Try.prog (fun _ => false) 21 = some (false, c_names_shapes.ntmps, c_names_shapes.results, c_names_shapes.body.bare) := by kernel_rfl
theorem CQ_22 : compK Try.prog (fun _ => false) 22 = some (false, c_names_walk_manyFuncs.ntmps, c_names_walk_manyFuncs.results, c_names_walk_manyFuncs.body.bare) := by kernel_rfl
theorem CQ_23 : compK Try.prog (fun _ => false) 23 = some (false, c_names_walk_badName.ntmps, c_names_walk_badName.results, c_names_walk_badName.body.bare) := by kernel_rfl
theorem CQ_24 : compK Try.prog (fun _ => false) 24 = some (false, c_names_walk_twiceFunc.ntmps, c_names_walk_twiceFunc.results, c_names_walk_twiceFunc.body.bare) := by kernel_rfl
theorem CQ_25 : compK Try.prog (fun _ => false) 25 = some (false, c_names_walk_noMain.ntmps, c_names_walk_noMain.results, c_names_walk_noMain.body.bare) := by kernel_rfl
theorem CQ_26 : compK Try.prog (fun _ => false) 26 = some (false, c_names_walk_manyParams.ntmps, c_names_walk_manyParams.results, c_names_walk_manyParams.body.bare) := by kernel_rfl
theorem CQ_27 : compK Try.prog (fun _ => false) 27 = some (false, c_names_walk_manyBlocks.ntmps, c_names_walk_manyBlocks.results, c_names_walk_manyBlocks.body.bare) := by kernel_rfl
theorem CQ_28 : compK Try.prog (fun _ => false) 28 = some (false, c_names_walk_twiceLabel.ntmps, c_names_walk_twiceLabel.results, c_names_walk_twiceLabel.body.bare) := by kernel_rfl
theorem CQ_29 : compK Try.prog (fun _ => false) 29 = some (false, c_names_walk_manyCode.ntmps, c_names_walk_manyCode.results, c_names_walk_manyCode.body.bare) := by kernel_rfl
theorem CQ_30 : compK Try.prog (fun _ => false) 30 = some (false, c_names_walk_badInstr.ntmps, c_names_walk_badInstr.results, c_names_walk_badInstr.body.bare) := by kernel_rfl
theorem CQ_31 : compK Try.prog (fun _ => false) 31 = some (false, c_names_walk_badEnd.ntmps, c_names_walk_badEnd.results, c_names_walk_badEnd.body.bare) := by kernel_rfl
theorem CQ_32 : compK Try.prog (fun _ => false) 32 = some (false, c_names_walk_badPhi.ntmps, c_names_walk_badPhi.results, c_names_walk_badPhi.body.bare) := by kernel_rfl
theorem CQ_33 : compK Try.prog (fun _ => false) 33 = some (false, c_names_walk_noLabel.ntmps, c_names_walk_noLabel.results, c_names_walk_noLabel.body.bare) := by kernel_rfl
theorem CQ_34 : compK Try.prog (fun _ => false) 34 = some (false, c_names_walk_noFunc.ntmps, c_names_walk_noFunc.results, c_names_walk_noFunc.body.bare) := by kernel_rfl
theorem CQ_35 : compK Try.prog (fun _ => false) 35 = some (false, c_names_walk_arity.ntmps, c_names_walk_arity.results, c_names_walk_arity.body.bare) := by kernel_rfl
theorem CQ_36 : compK Try.prog (fun _ => false) 36 = some (false, c_names_walk_twiceVar.ntmps, c_names_walk_twiceVar.results, c_names_walk_twiceVar.body.bare) := by kernel_rfl
theorem CQ_37 : compK Try.prog (fun _ => false) 37 = some (false, c_names_walk_noVar.ntmps, c_names_walk_noVar.results, c_names_walk_noVar.body.bare) := by kernel_rfl
theorem CQ_39 : compK Try.prog (fun _ => false) 39 = some (false, c_slices_ContainsFunc_string_string.ntmps, c_slices_ContainsFunc_string_string.results, c_slices_ContainsFunc_string_string.body.bare) := by kernel_rfl
theorem CQ_40 : compK Try.prog (fun _ => false) 40 = some (false, c_names_walk_badName_1.ntmps, c_names_walk_badName_1.results, c_names_walk_badName_1.body.bare) := by kernel_rfl
theorem CQ_41 : compK Try.prog (fun _ => false) 41 = some (false, c_names_bad.ntmps, c_names_bad.results, c_names_bad.body.bare) := by kernel_rfl
theorem CQ_42 : compK Try.prog (fun _ => false) 42 = some (false, c_slices_Contains_string_string.ntmps, c_slices_Contains_string_string.results, c_slices_Contains_string_string.body.bare) := by kernel_rfl
theorem CQ_43 : compK Try.prog (fun _ => false) 43 = some (false, c_names_walk_funcs.ntmps, c_names_walk_funcs.results, c_names_walk_funcs.body.bare) := by kernel_rfl
theorem CQ_44 : compK Try.prog (fun _ => false) 44 = some (false, c_names_walk_twiceFunc_1.ntmps, c_names_walk_twiceFunc_1.results, c_names_walk_twiceFunc_1.body.bare) := by kernel_rfl
theorem CQ_45 : compK Try.prog (fun _ => false) 45 = some (false, c_names_walk_named.ntmps, c_names_walk_named.results, c_names_walk_named.body.bare) := by kernel_rfl
theorem CQ_46 : compK Try.prog (fun _ => false) 46 = some (false, c_names_calls.ntmps, c_names_calls.results, c_names_calls.body.bare) := by kernel_rfl
theorem CQ_47 : compK Try.prog (fun _ => false) 47 = some (false, c_names_walk_manyBlocks_1.ntmps, c_names_walk_manyBlocks_1.results, c_names_walk_manyBlocks_1.body.bare) := by kernel_rfl
theorem CQ_48 : compK Try.prog (fun _ => false) 48 = some (false, c_names_walk_find.ntmps, c_names_walk_find.results, c_names_walk_find.body.bare) := by kernel_rfl
theorem CQ_49 : compK Try.prog (fun _ => false) 49 = some (false, c_names_walk_manyCode_1.ntmps, c_names_walk_manyCode_1.results, c_names_walk_manyCode_1.body.bare) := by kernel_rfl
theorem CQ_50 : compK Try.prog (fun _ => false) 50 = some (false, c_names_walk_badInstr_1.ntmps, c_names_walk_badInstr_1.results, c_names_walk_badInstr_1.body.bare) := by kernel_rfl
theorem CQ_51 : compK Try.prog (fun _ => false) 51 = some (false, c_names_ends.ntmps, c_names_ends.results, c_names_ends.body.bare) := by kernel_rfl
theorem CQ_52 : compK Try.prog (fun _ => false) 52 = some (false, c_names_walk_badPhi_1.ntmps, c_names_walk_badPhi_1.results, c_names_walk_badPhi_1.body.bare) := by kernel_rfl
theorem CQ_53 : compK Try.prog (fun _ => false) 53 = some (false, c_slices_ContainsFunc_api_Instr_api_Instr.ntmps, c_slices_ContainsFunc_api_Instr_api_Instr.results, c_slices_ContainsFunc_api_Instr_api_Instr.body.bare) := by kernel_rfl
theorem CQ_54 : compK Try.prog (fun _ => false) 54 = some (false, c_names_walk_badPhi_1_1.ntmps, c_names_walk_badPhi_1_1.results, c_names_walk_badPhi_1_1.body.bare) := by kernel_rfl
theorem CQ_55 : compK Try.prog (fun _ => false) 55 = some (false, c_names_walk_noLabel_1.ntmps, c_names_walk_noLabel_1.results, c_names_walk_noLabel_1.body.bare) := by kernel_rfl
theorem CQ_56 : compK Try.prog (fun _ => false) 56 = some (false, c_names_walk_noLabel_1_1.ntmps, c_names_walk_noLabel_1_1.results, c_names_walk_noLabel_1_1.body.bare) := by kernel_rfl
theorem CQ_57 : compK Try.prog (fun _ => false) 57 = some (false, c_slices_ContainsFunc_api_Block_api_Block.ntmps, c_slices_ContainsFunc_api_Block_api_Block.results, c_slices_ContainsFunc_api_Block_api_Block.body.bare) := by kernel_rfl
theorem CQ_58 : compK Try.prog (fun _ => false) 58 = some (false, c_names_walk_noLabel_1_1_1.ntmps, c_names_walk_noLabel_1_1_1.results, c_names_walk_noLabel_1_1_1.body.bare) := by kernel_rfl
theorem CQ_59 : compK Try.prog (fun _ => false) 59 = some (false, c_names_walk_noFunc_1.ntmps, c_names_walk_noFunc_1.results, c_names_walk_noFunc_1.body.bare) := by kernel_rfl
theorem CQ_60 : compK Try.prog (fun _ => false) 60 = some (false, c_names_walk_arity_1.ntmps, c_names_walk_arity_1.results, c_names_walk_arity_1.body.bare) := by kernel_rfl
theorem CQ_61 : compK Try.prog (fun _ => false) 61 = some (false, c_names_walk_noVar_1.ntmps, c_names_walk_noVar_1.results, c_names_walk_noVar_1.body.bare) := by kernel_rfl
theorem CQ_62 : compK Try.prog (fun _ => false) 62 = some (false, c_slices_IndexFunc_string_string.ntmps, c_slices_IndexFunc_string_string.results, c_slices_IndexFunc_string_string.body.bare) := by kernel_rfl
theorem CQ_63 : compK Try.prog (fun _ => false) 63 = some (false, c_names_bad_1.ntmps, c_names_bad_1.results, c_names_bad_1.body.bare) := by kernel_rfl
theorem CQ_64 : compK Try.prog (fun _ => false) 64 = some (false, c_slices_Index_string_string.ntmps, c_slices_Index_string_string.results, c_slices_Index_string_string.body.bare) := by kernel_rfl
theorem CQ_65 : compK Try.prog (fun _ => false) 65 = some (false, c_slices_IndexFunc_api_Func_api_Func.ntmps, c_slices_IndexFunc_api_Func_api_Func.results, c_slices_IndexFunc_api_Func_api_Func.body.bare) := by kernel_rfl
theorem CQ_66 : compK Try.prog (fun _ => false) 66 = some (false, c_names_walk_named_1.ntmps, c_names_walk_named_1.results, c_names_walk_named_1.body.bare) := by kernel_rfl
theorem CQ_67 : compK Try.prog (fun _ => false) 67 = some (false, c_names_walk_code.ntmps, c_names_walk_code.results, c_names_walk_code.body.bare) := by kernel_rfl
theorem CQ_68 : compK Try.prog (fun _ => false) 68 = some (false, c_slices_IndexFunc_api_Instr_api_Instr.ntmps, c_slices_IndexFunc_api_Instr_api_Instr.results, c_slices_IndexFunc_api_Instr_api_Instr.body.bare) := by kernel_rfl
theorem CQ_69 : compK Try.prog (fun _ => false) 69 = some (false, c_slices_IndexFunc_api_Block_api_Block.ntmps, c_slices_IndexFunc_api_Block_api_Block.results, c_slices_IndexFunc_api_Block_api_Block.body.bare) := by kernel_rfl
theorem CQ_70 : compK Try.prog (fun _ => false) 70 = some (false, c_names_walk_code_1.ntmps, c_names_walk_code_1.results, c_names_walk_code_1.body.bare) := by kernel_rfl
theorem CQ_ok : ∀ k c, CQ k = some c → FunOk Try.prog (fun _ => false) k c := by
  intro k c h
  unfold CQ at h
  split at h
  · cases h; exact funOk_of CQ_7
  · cases h; exact funOk_of CQ_9
  · cases h; exact funOk_of CQ_11
  · cases h; exact funOk_of CQ_12
  · cases h; exact funOk_of CQ_21
  · cases h; exact funOk_of CQ_22
  · cases h; exact funOk_of CQ_23
  · cases h; exact funOk_of CQ_24
  · cases h; exact funOk_of CQ_25
  · cases h; exact funOk_of CQ_26
  · cases h; exact funOk_of CQ_27
  · cases h; exact funOk_of CQ_28
  · cases h; exact funOk_of CQ_29
  · cases h; exact funOk_of CQ_30
  · cases h; exact funOk_of CQ_31
  · cases h; exact funOk_of CQ_32
  · cases h; exact funOk_of CQ_33
  · cases h; exact funOk_of CQ_34
  · cases h; exact funOk_of CQ_35
  · cases h; exact funOk_of CQ_36
  · cases h; exact funOk_of CQ_37
  · cases h; exact funOk_of CQ_39
  · cases h; exact funOk_of CQ_40
  · cases h; exact funOk_of CQ_41
  · cases h; exact funOk_of CQ_42
  · cases h; exact funOk_of CQ_43
  · cases h; exact funOk_of CQ_44
  · cases h; exact funOk_of CQ_45
  · cases h; exact funOk_of CQ_46
  · cases h; exact funOk_of CQ_47
  · cases h; exact funOk_of CQ_48
  · cases h; exact funOk_of CQ_49
  · cases h; exact funOk_of CQ_50
  · cases h; exact funOk_of CQ_51
  · cases h; exact funOk_of CQ_52
  · cases h; exact funOk_of CQ_53
  · cases h; exact funOk_of CQ_54
  · cases h; exact funOk_of CQ_55
  · cases h; exact funOk_of CQ_56
  · cases h; exact funOk_of CQ_57
  · cases h; exact funOk_of CQ_58
  · cases h; exact funOk_of CQ_59
  · cases h; exact funOk_of CQ_60
  · cases h; exact funOk_of CQ_61
  · cases h; exact funOk_of CQ_62
  · cases h; exact funOk_of CQ_63
  · cases h; exact funOk_of CQ_64
  · cases h; exact funOk_of CQ_65
  · cases h; exact funOk_of CQ_66
  · cases h; exact funOk_of CQ_67
  · cases h; exact funOk_of CQ_68
  · cases h; exact funOk_of CQ_69
  · cases h; exact funOk_of CQ_70
  · cases h

theorem checks_true : givesE CQ 300 9 = some (bl true) := by kernel_rfl
end Go.Proofs.YtamlbkalopefgaaR
