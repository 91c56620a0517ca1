/- Texts of the proof: CfgKC, AmR. -/
import Derived.Test.YtgimjihhlhjejaaP0
import Derived.Test.YtgimjihhlhjejaaP1
import Derived.Test.YtgimjihhlhjejaaP2
import Derived.Test.YtgimjihhlhjejaaProg
import Derived.KernelRfl
import Derived.DataReads
import Derived.ChangeOld
import Derived.ChangeArms
set_option linter.all false
set_option maxRecDepth 100000
namespace Go.Proofs.Ytgimjihhlhjejaa
open Go.AM
def c_gnomonlaw10_CfgKnown_l0 : ACode :=
  (.seq (.seq (.region [
    ⟨some 43, (.move (.t 4)), none⟩,
    ⟨some 44, (.move (.t 3)), none⟩,
    ⟨some 45, (.lenS .s (.t 44)), none⟩,
    ⟨some 46, (.bin .lss (.t 43) (.t 45)), none⟩] [] [])
  (.cond (.t 46)
    .skip
    (.exit 0)))
  (.seq (.block 1
    (.seq (.region [
      ⟨some 50, (.move (.t 3)), none⟩,
      ⟨some 51, (.move (.t 4)), none⟩,
      ⟨some 52, (.indexAddr 3 (.t 50) (.t 51)), none⟩,
      ⟨some 53, (.load true 3 (.t 52)), none⟩,
      ⟨some 54, (.call (.c (.fn 13 [] [])) [(.t 53)]), none⟩,
      ⟨some 49, (.move (.t 54)), none⟩,
      ⟨some 55, (.extract (.t 49) 0), none⟩,
      ⟨some 56, (.extract (.t 49) 1), none⟩,
      ⟨some 5, (.alloc [(.s (.slice none 0 0)), (.s (.slice none 0 0))]), none⟩,
      ⟨none, (.store 2 (.t 5) (.t 55)), none⟩,
      ⟨some 6, (.move (.t 56)), none⟩] [] [])
    (.seq (.region [
      ⟨some 57, (.move (.t 6)), none⟩,
      ⟨some 58, (.bin .neq (.t 57) (.c (.s (.int .i64 4)))), none⟩,
      ⟨some 59, (.move (.t 58)), none⟩,
      ⟨some 60, (.fieldAddr 0 (.t 5)), some (59, false)⟩,
      ⟨some 61, (.load false 1 (.t 60)), some (59, false)⟩,
      ⟨some 62, (.lenS .s (.t 61)), some (59, false)⟩,
      ⟨some 63, (.fieldAddr 1 (.t 5)), some (59, false)⟩,
      ⟨some 64, (.load false 1 (.t 63)), some (59, false)⟩,
      ⟨some 65, (.lenS .s (.t 64)), some (59, false)⟩,
      ⟨some 66, (.bin .add (.t 62) (.t 65)), some (59, false)⟩,
      ⟨some 67, (.bin .neq (.t 66) (.c (.s (.int .i64 0)))), some (59, false)⟩,
      ⟨some 68, (.pick (.t 59) (.c (.s (.bool true))) (.t 67)), none⟩,
      ⟨some 69, (.move (.t 68)), none⟩,
      ⟨some 70, (.move (.t 3)), some (69, false)⟩,
      ⟨some 71, (.move (.t 4)), some (69, false)⟩,
      ⟨some 72, (.indexAddr 3 (.t 70) (.t 71)), some (69, false)⟩,
      ⟨some 73, (.load true 3 (.t 72)), some (69, false)⟩,
      ⟨some 74, (.call (.c (.fn 15 [] [])) [(.t 73)]), some (69, false)⟩,
      ⟨some 75, (.lenS .s (.t 74)), some (69, false)⟩,
      ⟨some 76, (.bin .neq (.t 75) (.c (.s (.int .i64 0)))), some (69, false)⟩,
      ⟨some 77, (.pick (.t 69) (.c (.s (.bool true))) (.t 76)), none⟩] [] [])
    (.cond (.t 77)
      (.seq (.region [
        ⟨some 0, (.move (.c (.s (.bool false)))), none⟩] [] [])
      .ret)
      .skip))))
  (.region [
    ⟨some 47, (.move (.t 4)), none⟩,
    ⟨some 48, (.bin .add (.t 47) (.c (.s (.int .i64 1)))), none⟩,
    ⟨some 4, (.move (.t 48)), none⟩] [] [])))
def c_gnomonlaw10_CfgKnown_k0 : List Nat := [43, 44, 45, 46, 50, 51, 52, 53, 54, 49, 55, 56, 5, 6, 57, 58, 59, 60, 61, 62, 63, 64, 65, 66, 67, 68, 69, 70, 71, 72, 73, 74, 75, 76, 77, 47, 48]
def c_gnomonlaw10_CfgKnown : ACFun := { ntmps := 180, results := [(.tmp 0)], body :=
  (.seq (.region [
    ⟨some 0, (.move (.c (.s (.bool false)))), none⟩] [] [])
  (.seq (.region [
    ⟨some 13, (.build [(.s (.int .u8 0)), (.s (.string ⟨#[]⟩)), (.s (.string ⟨#[]⟩)), (.s (.string ⟨#[]⟩)), (.s (.int .i64 0)), (.s (.string ⟨#[]⟩)), (.s (.slice none 0 0)), (.s (.slice none 0 0))] [(0, 1), (1, 1), (2, 1), (3, 1), (4, 1), (5, 1), (6, 1), (7, 1)] [(0, (.c (.s (.int .u8 14))))]), none⟩,
    ⟨some 1, (.alloc [(.s (.int .u8 0)), (.s (.string ⟨#[]⟩)), (.s (.string ⟨#[]⟩)), (.s (.string ⟨#[]⟩)), (.s (.int .i64 0)), (.s (.string ⟨#[]⟩)), (.s (.slice none 0 0)), (.s (.slice none 0 0))]), none⟩,
    ⟨none, (.store 8 (.t 1) (.t 13)), none⟩] [] [])
  (.seq (.region [
    ⟨some 2, (.move (.c (.fn 18 [] []))), none⟩] [] [])
  (.seq (.region [
    ⟨some 14, (.move (.t 2)), none⟩,
    ⟨some 15, (.buildSl 1 1 [(.s (.string ⟨#[]⟩))] [(0, (.c (.s (.string ⟨#[122]⟩))))]), none⟩,
    ⟨some 16, (.build [(.s (.int .u8 0)), (.s (.string ⟨#[]⟩)), (.s (.string ⟨#[]⟩)), (.s (.string ⟨#[]⟩)), (.s (.int .i64 0)), (.s (.string ⟨#[]⟩)), (.s (.slice none 0 0)), (.s (.slice none 0 0))] [(0, 1), (1, 1), (2, 1), (3, 1), (4, 1), (5, 1), (6, 1), (7, 1)] [(0, (.c (.s (.int .u8 13)))), (7, (.t 15))]), none⟩,
    ⟨some 17, (.buildSl 8 1 [(.s (.int .u8 0)), (.s (.string ⟨#[]⟩)), (.s (.string ⟨#[]⟩)), (.s (.string ⟨#[]⟩)), (.s (.int .i64 0)), (.s (.string ⟨#[]⟩)), (.s (.slice none 0 0)), (.s (.slice none 0 0))] [(0, (.t 16))]), none⟩,
    ⟨some 18, (.callR (.t 14) [(.c (.s (.string ⟨#[97]⟩))), (.t 17)]), none⟩,
    ⟨some 19, (.buildSl 2 1 [(.s (.string ⟨#[]⟩)), (.s (.slice none 0 0))] [(0, (.t 18))]), none⟩,
    ⟨some 20, (.build [(.s (.string ⟨#[]⟩)), (.s (.slice none 0 0)), (.s (.slice none 0 0))] [(0, 1), (1, 1), (2, 1)] [(2, (.t 19))]), none⟩,
    ⟨some 21, (.move (.t 2)), none⟩,
    ⟨some 22, (.callR (.t 21) [(.c (.s (.string ⟨#[97]⟩))), (.c (.s (.slice none 0 0)))]), none⟩,
    ⟨some 23, (.buildSl 2 1 [(.s (.string ⟨#[]⟩)), (.s (.slice none 0 0))] [(0, (.t 22))]), none⟩,
    ⟨some 24, (.build [(.s (.string ⟨#[]⟩)), (.s (.slice none 0 0)), (.s (.slice none 0 0))] [(0, 1), (1, 1), (2, 1)] [(2, (.t 23))]), none⟩,
    ⟨some 25, (.move (.t 2)), none⟩,
    ⟨some 26, (.load true 8 (.t 1)), none⟩,
    ⟨some 27, (.buildSl 8 1 [(.s (.int .u8 0)), (.s (.string ⟨#[]⟩)), (.s (.string ⟨#[]⟩)), (.s (.string ⟨#[]⟩)), (.s (.int .i64 0)), (.s (.string ⟨#[]⟩)), (.s (.slice none 0 0)), (.s (.slice none 0 0))] [(0, (.t 26))]), none⟩,
    ⟨some 28, (.callR (.t 25) [(.c (.s (.string ⟨#[97]⟩))), (.t 27)]), none⟩,
    ⟨some 29, (.move (.t 2)), none⟩,
    ⟨some 30, (.build [(.s (.int .u8 0)), (.s (.string ⟨#[]⟩)), (.s (.string ⟨#[]⟩)), (.s (.string ⟨#[]⟩)), (.s (.int .i64 0)), (.s (.string ⟨#[]⟩)), (.s (.slice none 0 0)), (.s (.slice none 0 0))] [(0, 1), (1, 1), (2, 1), (3, 1), (4, 1), (5, 1), (6, 1), (7, 1)] [(0, (.c (.s (.int .u8 3))))]), none⟩,
    ⟨some 31, (.buildSl 8 1 [(.s (.int .u8 0)), (.s (.string ⟨#[]⟩)), (.s (.string ⟨#[]⟩)), (.s (.string ⟨#[]⟩)), (.s (.int .i64 0)), (.s (.string ⟨#[]⟩)), (.s (.slice none 0 0)), (.s (.slice none 0 0))] [(0, (.t 30))]), none⟩,
    ⟨some 32, (.callR (.t 29) [(.c (.s (.string ⟨#[98]⟩))), (.t 31)]), none⟩,
    ⟨some 33, (.buildSl 2 2 [(.s (.string ⟨#[]⟩)), (.s (.slice none 0 0)), (.s (.string ⟨#[]⟩)), (.s (.slice none 0 0))] [(0, (.t 28)), (1, (.t 32))]), none⟩,
    ⟨some 34, (.build [(.s (.string ⟨#[]⟩)), (.s (.slice none 0 0)), (.s (.slice none 0 0))] [(0, 1), (1, 1), (2, 1)] [(2, (.t 33))]), none⟩,
    ⟨some 35, (.move (.t 2)), none⟩,
    ⟨some 36, (.load true 8 (.t 1)), none⟩,
    ⟨some 37, (.build [(.s (.int .u8 0)), (.s (.string ⟨#[]⟩)), (.s (.string ⟨#[]⟩)), (.s (.string ⟨#[]⟩)), (.s (.int .i64 0)), (.s (.string ⟨#[]⟩)), (.s (.slice none 0 0)), (.s (.slice none 0 0))] [(0, 1), (1, 1), (2, 1), (3, 1), (4, 1), (5, 1), (6, 1), (7, 1)] []), none⟩,
    ⟨some 38, (.buildSl 8 2 [(.s (.int .u8 0)), (.s (.string ⟨#[]⟩)), (.s (.string ⟨#[]⟩)), (.s (.string ⟨#[]⟩)), (.s (.int .i64 0)), (.s (.string ⟨#[]⟩)), (.s (.slice none 0 0)), (.s (.slice none 0 0)), (.s (.int .u8 0)), (.s (.string ⟨#[]⟩)), (.s (.string ⟨#[]⟩)), (.s (.string ⟨#[]⟩)), (.s (.int .i64 0)), (.s (.string ⟨#[]⟩)), (.s (.slice none 0 0)), (.s (.slice none 0 0))] [(0, (.t 36)), (1, (.t 37))]), none⟩,
    ⟨some 39, (.callR (.t 35) [(.c (.s (.string ⟨#[97]⟩))), (.t 38)]), none⟩,
    ⟨some 40, (.buildSl 2 1 [(.s (.string ⟨#[]⟩)), (.s (.slice none 0 0))] [(0, (.t 39))]), none⟩,
    ⟨some 41, (.build [(.s (.string ⟨#[]⟩)), (.s (.slice none 0 0)), (.s (.slice none 0 0))] [(0, 1), (1, 1), (2, 1)] [(2, (.t 40))]), none⟩,
    ⟨some 42, (.buildSl 3 4 [(.s (.string ⟨#[]⟩)), (.s (.slice none 0 0)), (.s (.slice none 0 0)), (.s (.string ⟨#[]⟩)), (.s (.slice none 0 0)), (.s (.slice none 0 0)), (.s (.string ⟨#[]⟩)), (.s (.slice none 0 0)), (.s (.slice none 0 0)), (.s (.string ⟨#[]⟩)), (.s (.slice none 0 0)), (.s (.slice none 0 0))] [(0, (.t 20)), (1, (.t 24)), (2, (.t 34)), (3, (.t 41))]), none⟩,
    ⟨some 3, (.move (.t 42)), none⟩] [] [])
  (.seq (.seq (.region [
    ⟨some 4, (.move (.c (.s (.int .i64 0)))), none⟩] [] [])
  (.block 0
    (.loop c_gnomonlaw10_CfgKnown_k0 c_gnomonlaw10_CfgKnown_l0)))
  (.seq (.region [
    ⟨some 79, (.move (.t 2)), none⟩,
    ⟨some 80, (.buildSl 1 2 [(.s (.string ⟨#[]⟩)), (.s (.string ⟨#[]⟩))] [(0, (.c (.s (.string ⟨#[99]⟩)))), (1, (.c (.s (.string ⟨#[98]⟩))))]), none⟩,
    ⟨some 81, (.build [(.s (.int .u8 0)), (.s (.string ⟨#[]⟩)), (.s (.string ⟨#[]⟩)), (.s (.string ⟨#[]⟩)), (.s (.int .i64 0)), (.s (.string ⟨#[]⟩)), (.s (.slice none 0 0)), (.s (.slice none 0 0))] [(0, 1), (1, 1), (2, 1), (3, 1), (4, 1), (5, 1), (6, 1), (7, 1)] [(0, (.c (.s (.int .u8 12)))), (7, (.t 80))]), none⟩,
    ⟨some 82, (.buildSl 8 1 [(.s (.int .u8 0)), (.s (.string ⟨#[]⟩)), (.s (.string ⟨#[]⟩)), (.s (.string ⟨#[]⟩)), (.s (.int .i64 0)), (.s (.string ⟨#[]⟩)), (.s (.slice none 0 0)), (.s (.slice none 0 0))] [(0, (.t 81))]), none⟩,
    ⟨some 83, (.callR (.t 79) [(.c (.s (.string ⟨#[97]⟩))), (.t 82)]), none⟩,
    ⟨some 84, (.move (.t 2)), none⟩,
    ⟨some 85, (.buildSl 1 1 [(.s (.string ⟨#[]⟩))] [(0, (.c (.s (.string ⟨#[99]⟩))))]), none⟩,
    ⟨some 86, (.build [(.s (.int .u8 0)), (.s (.string ⟨#[]⟩)), (.s (.string ⟨#[]⟩)), (.s (.string ⟨#[]⟩)), (.s (.int .i64 0)), (.s (.string ⟨#[]⟩)), (.s (.slice none 0 0)), (.s (.slice none 0 0))] [(0, 1), (1, 1), (2, 1), (3, 1), (4, 1), (5, 1), (6, 1), (7, 1)] [(0, (.c (.s (.int .u8 13)))), (7, (.t 85))]), none⟩,
    ⟨some 87, (.buildSl 8 1 [(.s (.int .u8 0)), (.s (.string ⟨#[]⟩)), (.s (.string ⟨#[]⟩)), (.s (.string ⟨#[]⟩)), (.s (.int .i64 0)), (.s (.string ⟨#[]⟩)), (.s (.slice none 0 0)), (.s (.slice none 0 0))] [(0, (.t 86))]), none⟩,
    ⟨some 88, (.callR (.t 84) [(.c (.s (.string ⟨#[98]⟩))), (.t 87)]), none⟩,
    ⟨some 89, (.move (.t 2)), none⟩,
    ⟨some 90, (.build [(.s (.int .u8 0)), (.s (.string ⟨#[]⟩)), (.s (.string ⟨#[]⟩)), (.s (.string ⟨#[]⟩)), (.s (.int .i64 0)), (.s (.string ⟨#[]⟩)), (.s (.slice none 0 0)), (.s (.slice none 0 0))] [(0, 1), (1, 1), (2, 1), (3, 1), (4, 1), (5, 1), (6, 1), (7, 1)] [(0, (.c (.s (.int .u8 13))))]), none⟩,
    ⟨some 91, (.buildSl 1 1 [(.s (.string ⟨#[]⟩))] [(0, (.c (.s (.string ⟨#[97]⟩))))]), none⟩,
    ⟨some 92, (.build [(.s (.int .u8 0)), (.s (.string ⟨#[]⟩)), (.s (.string ⟨#[]⟩)), (.s (.string ⟨#[]⟩)), (.s (.int .i64 0)), (.s (.string ⟨#[]⟩)), (.s (.slice none 0 0)), (.s (.slice none 0 0))] [(0, 1), (1, 1), (2, 1), (3, 1), (4, 1), (5, 1), (6, 1), (7, 1)] [(0, (.c (.s (.int .u8 14)))), (7, (.t 91))]), none⟩,
    ⟨some 93, (.buildSl 8 2 [(.s (.int .u8 0)), (.s (.string ⟨#[]⟩)), (.s (.string ⟨#[]⟩)), (.s (.string ⟨#[]⟩)), (.s (.int .i64 0)), (.s (.string ⟨#[]⟩)), (.s (.slice none 0 0)), (.s (.slice none 0 0)), (.s (.int .u8 0)), (.s (.string ⟨#[]⟩)), (.s (.string ⟨#[]⟩)), (.s (.string ⟨#[]⟩)), (.s (.int .i64 0)), (.s (.string ⟨#[]⟩)), (.s (.slice none 0 0)), (.s (.slice none 0 0))] [(0, (.t 90)), (1, (.t 92))]), none⟩,
    ⟨some 94, (.callR (.t 89) [(.c (.s (.string ⟨#[99]⟩))), (.t 93)]), none⟩,
    ⟨some 95, (.move (.t 2)), none⟩,
    ⟨some 96, (.load true 8 (.t 1)), none⟩,
    ⟨some 97, (.buildSl 8 1 [(.s (.int .u8 0)), (.s (.string ⟨#[]⟩)), (.s (.string ⟨#[]⟩)), (.s (.string ⟨#[]⟩)), (.s (.int .i64 0)), (.s (.string ⟨#[]⟩)), (.s (.slice none 0 0)), (.s (.slice none 0 0))] [(0, (.t 96))]), none⟩,
    ⟨some 98, (.callR (.t 95) [(.c (.s (.string ⟨#[97]⟩))), (.t 97)]), none⟩,
    ⟨some 99, (.buildSl 2 4 [(.s (.string ⟨#[]⟩)), (.s (.slice none 0 0)), (.s (.string ⟨#[]⟩)), (.s (.slice none 0 0)), (.s (.string ⟨#[]⟩)), (.s (.slice none 0 0)), (.s (.string ⟨#[]⟩)), (.s (.slice none 0 0))] [(0, (.t 83)), (1, (.t 88)), (2, (.t 94)), (3, (.t 98))]), none⟩,
    ⟨some 100, (.build [(.s (.string ⟨#[]⟩)), (.s (.slice none 0 0)), (.s (.slice none 0 0))] [(0, 1), (1, 1), (2, 1)] [(2, (.t 99))]), none⟩,
    ⟨some 101, (.callR (.c (.fn 13 [] [])) [(.t 100)]), none⟩,
    ⟨some 78, (.move (.t 101)), none⟩,
    ⟨some 102, (.extract (.t 78) 0), none⟩,
    ⟨some 103, (.extract (.t 78) 1), none⟩,
    ⟨some 7, (.alloc [(.s (.slice none 0 0)), (.s (.slice none 0 0))]), none⟩,
    ⟨none, (.store 2 (.t 7) (.t 102)), none⟩,
    ⟨some 8, (.move (.t 103)), none⟩] [] [])
  (.seq (.seq (.region [
    ⟨some 104, (.move (.t 8)), none⟩,
    ⟨some 105, (.bin .neq (.t 104) (.c (.s (.int .i64 0)))), none⟩,
    ⟨some 106, (.move (.t 105)), none⟩,
    ⟨some 107, (.fieldAddr 0 (.t 7)), some (106, false)⟩,
    ⟨some 108, (.load false 1 (.t 107)), some (106, false)⟩,
    ⟨some 109, (.buildSl 1 2 [(.s (.int .i64 0)), (.s (.int .i64 0))] [(0, (.c (.s (.int .i64 1)))), (1, (.c (.s (.int .i64 2))))]), some (106, false)⟩,
    ⟨some 110, (.buildSl 1 1 [(.s (.int .i64 0))] [(0, (.c (.s (.int .i64 2))))]), some (106, false)⟩,
    ⟨some 111, (.buildSl 1 4 [(.s (.slice none 0 0)), (.s (.slice none 0 0)), (.s (.slice none 0 0)), (.s (.slice none 0 0))] [(0, (.t 109)), (1, (.t 110)), (2, (.c (.s (.slice none 0 0)))), (3, (.c (.s (.slice none 0 0))))]), some (106, false)⟩,
    ⟨some 112, (.call (.c (.fn 14 [] [])) [(.t 108), (.t 111)]), some (106, false)⟩,
    ⟨some 113, (.un .not (.t 112)), some (106, false)⟩,
    ⟨some 114, (.pick (.t 106) (.c (.s (.bool true))) (.t 113)), none⟩,
    ⟨some 115, (.move (.t 114)), none⟩,
    ⟨some 116, (.fieldAddr 1 (.t 7)), some (115, false)⟩,
    ⟨some 117, (.load false 1 (.t 116)), some (115, false)⟩,
    ⟨some 118, (.buildSl 1 1 [(.s (.int .i64 0))] [(0, (.c (.s (.int .i64 0))))]), some (115, false)⟩,
    ⟨some 119, (.buildSl 1 2 [(.s (.int .i64 0)), (.s (.int .i64 0))] [(0, (.c (.s (.int .i64 0)))), (1, (.c (.s (.int .i64 1))))]), some (115, false)⟩,
    ⟨some 120, (.buildSl 1 4 [(.s (.slice none 0 0)), (.s (.slice none 0 0)), (.s (.slice none 0 0)), (.s (.slice none 0 0))] [(0, (.c (.s (.slice none 0 0)))), (1, (.t 118)), (2, (.t 119)), (3, (.c (.s (.slice none 0 0))))]), some (115, false)⟩,
    ⟨some 121, (.call (.c (.fn 14 [] [])) [(.t 117), (.t 120)]), some (115, false)⟩,
    ⟨some 122, (.un .not (.t 121)), some (115, false)⟩,
    ⟨some 123, (.pick (.t 115) (.c (.s (.bool true))) (.t 122)), none⟩] [] [])
  (.cond (.t 123)
    (.seq (.region [
      ⟨some 0, (.move (.c (.s (.bool false)))), none⟩] [] [])
    .ret)
    .skip))
  (.seq (.region [
    ⟨some 124, (.buildSl 1 4 [(.s (.string ⟨#[]⟩)), (.s (.string ⟨#[]⟩)), (.s (.string ⟨#[]⟩)), (.s (.string ⟨#[]⟩))] [(0, (.c (.s (.string ⟨#[110, 117, 108, 108]⟩)))), (1, (.c (.s (.string ⟨#[113]⟩)))), (2, (.c (.s (.string ⟨#[]⟩)))), (3, (.c (.s (.string ⟨#[112]⟩))))]), none⟩,
    ⟨some 125, (.build [(.s (.int .u8 0)), (.s (.string ⟨#[]⟩)), (.s (.string ⟨#[]⟩)), (.s (.string ⟨#[]⟩)), (.s (.int .i64 0)), (.s (.string ⟨#[]⟩)), (.s (.slice none 0 0)), (.s (.slice none 0 0))] [(0, 1), (1, 1), (2, 1), (3, 1), (4, 1), (5, 1), (6, 1), (7, 1)] [(1, (.c (.s (.string ⟨#[120]⟩)))), (2, (.c (.s (.string ⟨#[112]⟩)))), (6, (.t 124))]), none⟩,
    ⟨some 126, (.call (.c (.fn 8 [] [])) [(.t 125)]), none⟩,
    ⟨some 9, (.move (.t 126)), none⟩] [] [])
  (.seq (.region [
    ⟨some 127, (.buildSl 1 1 [(.s (.string ⟨#[]⟩))] [(0, (.c (.s (.string ⟨#[108]⟩))))]), none⟩,
    ⟨some 128, (.build [(.s (.int .u8 0)), (.s (.string ⟨#[]⟩)), (.s (.string ⟨#[]⟩)), (.s (.string ⟨#[]⟩)), (.s (.int .i64 0)), (.s (.string ⟨#[]⟩)), (.s (.slice none 0 0)), (.s (.slice none 0 0))] [(0, 1), (1, 1), (2, 1), (3, 1), (4, 1), (5, 1), (6, 1), (7, 1)] [(0, (.c (.s (.int .u8 9)))), (2, (.c (.s (.string ⟨#[110, 117, 108, 108]⟩)))), (3, (.c (.s (.string ⟨#[121]⟩)))), (5, (.c (.s (.string ⟨#[102]⟩)))), (7, (.t 127))]), none⟩,
    ⟨some 129, (.call (.c (.fn 8 [] [])) [(.t 128)]), none⟩,
    ⟨some 10, (.move (.t 129)), none⟩] [] [])
  (.seq (.region [
    ⟨some 131, (.build [(.s (.string ⟨#[]⟩)), (.s (.slice none 0 0)), (.s (.slice none 0 0))] [(0, 1), (1, 1), (2, 1)] []), none⟩,
    ⟨some 132, (.call (.c (.fn 13 [] [])) [(.t 131)]), none⟩,
    ⟨some 130, (.move (.t 132)), none⟩,
    ⟨some 133, (.extract (.t 130) 0), none⟩,
    ⟨some 134, (.extract (.t 130) 1), none⟩,
    ⟨some 11, (.alloc [(.s (.slice none 0 0)), (.s (.slice none 0 0))]), none⟩,
    ⟨none, (.store 2 (.t 11) (.t 133)), none⟩,
    ⟨some 12, (.move (.t 134)), none⟩] [] [])
  (.seq (.region [
    ⟨some 135, (.move (.t 9)), none⟩,
    ⟨some 136, (.lenS .s (.t 135)), none⟩,
    ⟨some 137, (.bin .eql (.t 136) (.c (.s (.int .i64 3)))), none⟩,
    ⟨some 138, (.move (.t 137)), none⟩,
    ⟨some 139, (.move (.t 9)), some (138, true)⟩,
    ⟨some 140, (.indexAddr 1 (.t 139) (.c (.s (.int .i64 0)))), some (138, true)⟩,
    ⟨some 141, (.load false 1 (.t 140)), some (138, true)⟩,
    ⟨some 142, (.bin .eql (.t 141) (.c (.s (.string ⟨#[112]⟩)))), some (138, true)⟩,
    ⟨some 143, (.pick (.t 138) (.t 142) (.c (.s (.bool false)))), none⟩,
    ⟨some 144, (.move (.t 143)), none⟩,
    ⟨some 145, (.move (.t 9)), some (144, true)⟩,
    ⟨some 146, (.indexAddr 1 (.t 145) (.c (.s (.int .i64 1)))), some (144, true)⟩,
    ⟨some 147, (.load false 1 (.t 146)), some (144, true)⟩,
    ⟨some 148, (.bin .eql (.t 147) (.c (.s (.string ⟨#[113]⟩)))), some (144, true)⟩,
    ⟨some 149, (.pick (.t 144) (.t 148) (.c (.s (.bool false)))), none⟩,
    ⟨some 150, (.move (.t 149)), none⟩,
    ⟨some 151, (.move (.t 9)), some (150, true)⟩,
    ⟨some 152, (.indexAddr 1 (.t 151) (.c (.s (.int .i64 2)))), some (150, true)⟩,
    ⟨some 153, (.load false 1 (.t 152)), some (150, true)⟩,
    ⟨some 154, (.bin .eql (.t 153) (.c (.s (.string ⟨#[112]⟩)))), some (150, true)⟩,
    ⟨some 155, (.pick (.t 150) (.t 154) (.c (.s (.bool false)))), none⟩,
    ⟨some 156, (.move (.t 155)), none⟩,
    ⟨some 157, (.move (.t 10)), some (156, true)⟩,
    ⟨some 158, (.lenS .s (.t 157)), some (156, true)⟩,
    ⟨some 159, (.bin .eql (.t 158) (.c (.s (.int .i64 1)))), some (156, true)⟩,
    ⟨some 160, (.pick (.t 156) (.t 159) (.c (.s (.bool false)))), none⟩,
    ⟨some 161, (.move (.t 160)), none⟩,
    ⟨some 162, (.move (.t 10)), some (161, true)⟩,
    ⟨some 163, (.indexAddr 1 (.t 162) (.c (.s (.int .i64 0)))), some (161, true)⟩,
    ⟨some 164, (.load false 1 (.t 163)), some (161, true)⟩,
    ⟨some 165, (.bin .eql (.t 164) (.c (.s (.string ⟨#[121]⟩)))), some (161, true)⟩,
    ⟨some 166, (.pick (.t 161) (.t 165) (.c (.s (.bool false)))), none⟩,
    ⟨some 167, (.move (.t 166)), none⟩,
    ⟨some 168, (.move (.t 12)), some (167, true)⟩,
    ⟨some 169, (.bin .eql (.t 168) (.c (.s (.int .i64 0)))), some (167, true)⟩,
    ⟨some 170, (.pick (.t 167) (.t 169) (.c (.s (.bool false)))), none⟩,
    ⟨some 171, (.move (.t 170)), none⟩,
    ⟨some 172, (.fieldAddr 0 (.t 11)), some (171, true)⟩,
    ⟨some 173, (.load false 1 (.t 172)), some (171, true)⟩,
    ⟨some 174, (.lenS .s (.t 173)), some (171, true)⟩,
    ⟨some 175, (.bin .eql (.t 174) (.c (.s (.int .i64 0)))), some (171, true)⟩,
    ⟨some 176, (.pick (.t 171) (.t 175) (.c (.s (.bool false)))), none⟩,
    ⟨some 177, (.move (.t 176)), none⟩,
    ⟨some 178, (.call (.c (.fn 11 [] [])) []), some (177, true)⟩,
    ⟨some 179, (.pick (.t 177) (.t 178) (.c (.s (.bool false)))), none⟩,
    ⟨some 0, (.move (.t 179)), none⟩] [] [])
  .ret))))))))))) }
def c_cfg_Uses : ACFun := { ntmps := 12, results := [(.tmp 2)], body :=
  (.seq (.region [
    ⟨some 1, (.box (.t 0)), none⟩,
    ⟨some 2, (.move (.c (.s (.slice none 0 0)))), none⟩] [] [])
  (.seq (.region [
    ⟨some 3, (.fieldAddr 2 (.t 1)), none⟩,
    ⟨some 4, (.load false 1 (.t 3)), none⟩,
    ⟨some 5, (.fieldAddr 3 (.t 1)), none⟩,
    ⟨some 6, (.load false 1 (.t 5)), none⟩,
    ⟨some 7, (.buildSl 1 2 [(.s (.string ⟨#[]⟩)), (.s (.string ⟨#[]⟩))] [(0, (.t 4)), (1, (.t 6))]), none⟩,
    ⟨some 8, (.fieldAddr 6 (.t 1)), none⟩,
    ⟨some 9, (.load false 1 (.t 8)), none⟩,
    ⟨some 10, (.append 1 16 (.t 7) (.t 9)), none⟩,
    ⟨some 11, (.call (.c (.fn 19 [] [])) [(.t 10)]), none⟩,
    ⟨some 2, (.move (.t 11)), none⟩] [] [])
  .ret)) }
def c_gnomonlaw10_tells : ACFun := { ntmps := 35, results := [(.tmp 0)], body :=
  (.seq (.region [
    ⟨some 0, (.move (.c (.s (.bool false)))), none⟩] [] [])
  (.seq (.region [
    ⟨some 4, (.buildSl 1 2 [(.s (.string ⟨#[]⟩)), (.s (.string ⟨#[]⟩))] [(0, (.c (.s (.string ⟨#[98]⟩)))), (1, (.c (.s (.string ⟨#[98]⟩))))]), none⟩,
    ⟨some 5, (.build [(.s (.int .u8 0)), (.s (.string ⟨#[]⟩)), (.s (.string ⟨#[]⟩)), (.s (.string ⟨#[]⟩)), (.s (.int .i64 0)), (.s (.string ⟨#[]⟩)), (.s (.slice none 0 0)), (.s (.slice none 0 0))] [(0, 1), (1, 1), (2, 1), (3, 1), (4, 1), (5, 1), (6, 1), (7, 1)] [(0, (.c (.s (.int .u8 12)))), (7, (.t 4))]), none⟩,
    ⟨some 6, (.buildSl 8 1 [(.s (.int .u8 0)), (.s (.string ⟨#[]⟩)), (.s (.string ⟨#[]⟩)), (.s (.string ⟨#[]⟩)), (.s (.int .i64 0)), (.s (.string ⟨#[]⟩)), (.s (.slice none 0 0)), (.s (.slice none 0 0))] [(0, (.t 5))]), none⟩,
    ⟨some 7, (.build [(.s (.string ⟨#[]⟩)), (.s (.slice none 0 0))] [(0, 1), (1, 1)] [(0, (.c (.s (.string ⟨#[97]⟩)))), (1, (.t 6))]), none⟩,
    ⟨some 8, (.buildSl 1 1 [(.s (.string ⟨#[]⟩))] [(0, (.c (.s (.string ⟨#[97]⟩))))]), none⟩,
    ⟨some 9, (.build [(.s (.int .u8 0)), (.s (.string ⟨#[]⟩)), (.s (.string ⟨#[]⟩)), (.s (.string ⟨#[]⟩)), (.s (.int .i64 0)), (.s (.string ⟨#[]⟩)), (.s (.slice none 0 0)), (.s (.slice none 0 0))] [(0, 1), (1, 1), (2, 1), (3, 1), (4, 1), (5, 1), (6, 1), (7, 1)] [(0, (.c (.s (.int .u8 13)))), (7, (.t 8))]), none⟩,
    ⟨some 10, (.buildSl 8 1 [(.s (.int .u8 0)), (.s (.string ⟨#[]⟩)), (.s (.string ⟨#[]⟩)), (.s (.string ⟨#[]⟩)), (.s (.int .i64 0)), (.s (.string ⟨#[]⟩)), (.s (.slice none 0 0)), (.s (.slice none 0 0))] [(0, (.t 9))]), none⟩,
    ⟨some 11, (.build [(.s (.string ⟨#[]⟩)), (.s (.slice none 0 0))] [(0, 1), (1, 1)] [(0, (.c (.s (.string ⟨#[98]⟩)))), (1, (.t 10))]), none⟩,
    ⟨some 12, (.buildSl 2 2 [(.s (.string ⟨#[]⟩)), (.s (.slice none 0 0)), (.s (.string ⟨#[]⟩)), (.s (.slice none 0 0))] [(0, (.t 7)), (1, (.t 11))]), none⟩,
    ⟨some 13, (.build [(.s (.string ⟨#[]⟩)), (.s (.slice none 0 0)), (.s (.slice none 0 0))] [(0, 1), (1, 1), (2, 1)] [(2, (.t 12))]), none⟩,
    ⟨some 14, (.call (.c (.fn 13 [] [])) [(.t 13)]), none⟩,
    ⟨some 3, (.move (.t 14)), none⟩,
    ⟨some 15, (.extract (.t 3) 0), none⟩,
    ⟨some 16, (.extract (.t 3) 1), none⟩,
    ⟨some 1, (.alloc [(.s (.slice none 0 0)), (.s (.slice none 0 0))]), none⟩,
    ⟨none, (.store 2 (.t 1) (.t 15)), none⟩,
    ⟨some 2, (.move (.t 16)), none⟩] [] [])
  (.seq (.region [
    ⟨some 17, (.move (.t 2)), none⟩,
    ⟨some 18, (.bin .eql (.t 17) (.c (.s (.int .i64 0)))), none⟩,
    ⟨some 19, (.move (.t 18)), none⟩,
    ⟨some 20, (.fieldAddr 0 (.t 1)), some (19, true)⟩,
    ⟨some 21, (.load false 1 (.t 20)), some (19, true)⟩,
    ⟨some 22, (.buildSl 1 1 [(.s (.int .i64 0))] [(0, (.c (.s (.int .i64 1))))]), some (19, true)⟩,
    ⟨some 23, (.buildSl 1 1 [(.s (.int .i64 0))] [(0, (.c (.s (.int .i64 0))))]), some (19, true)⟩,
    ⟨some 24, (.buildSl 1 2 [(.s (.slice none 0 0)), (.s (.slice none 0 0))] [(0, (.t 22)), (1, (.t 23))]), some (19, true)⟩,
    ⟨some 25, (.call (.c (.fn 14 [] [])) [(.t 21), (.t 24)]), some (19, true)⟩,
    ⟨some 26, (.pick (.t 19) (.t 25) (.c (.s (.bool false)))), none⟩,
    ⟨some 27, (.move (.t 26)), none⟩,
    ⟨some 28, (.fieldAddr 1 (.t 1)), some (27, true)⟩,
    ⟨some 29, (.load false 1 (.t 28)), some (27, true)⟩,
    ⟨some 30, (.buildSl 1 1 [(.s (.int .i64 0))] [(0, (.c (.s (.int .i64 1))))]), some (27, true)⟩,
    ⟨some 31, (.buildSl 1 1 [(.s (.int .i64 0))] [(0, (.c (.s (.int .i64 0))))]), some (27, true)⟩,
    ⟨some 32, (.buildSl 1 2 [(.s (.slice none 0 0)), (.s (.slice none 0 0))] [(0, (.t 30)), (1, (.t 31))]), some (27, true)⟩,
    ⟨some 33, (.call (.c (.fn 14 [] [])) [(.t 29), (.t 32)]), some (27, true)⟩,
    ⟨some 34, (.pick (.t 27) (.t 33) (.c (.s (.bool false)))), none⟩,
    ⟨some 0, (.move (.t 34)), none⟩] [] [])
  .ret))) }
def c_cfg_Of_a0 : ACode :=
  (.seq (.region [
    ⟨some 5, (.move (.t 19)), none⟩] [] [])
  (.region [
    ⟨some 6, (.alloc [(.s (.string ⟨#[]⟩)), (.s (.slice none 0 0))]), none⟩,
    ⟨none, (.store 2 (.t 6) (.t 20)), none⟩] [] []))
def c_cfg_Of_b0 : ACode :=
  (.block 1
    (.region [
      ⟨some 21, (.load false 1 (.t 4)), none⟩,
      ⟨some 22, (.fieldAddr 0 (.t 6)), none⟩,
      ⟨some 23, (.load false 1 (.t 22)), none⟩,
      ⟨some 24, (.move (.t 5)), none⟩,
      ⟨none, (.mapUpd .string (.t 21) (.t 23) (.t 24)), none⟩] [] []))
def c_cfg_Of_l1 : ACode :=
  (.seq (.region [
    ⟨some 60, (.bin .lss (.t 59) (.t 58)), none⟩] [] [])
  (.seq (.cond (.t 60)
    .skip
    (.exit 5))
  (.seq (.block 6
    (.seq (.region [
      ⟨some 61, (.indexAddr 1 (.t 57) (.t 59)), none⟩,
      ⟨some 62, (.load false 1 (.t 61)), none⟩,
      ⟨some 12, (.move (.t 62)), none⟩] [] [])
    (.seq (.region [
      ⟨some 64, (.load false 1 (.t 4)), none⟩,
      ⟨some 65, (.move (.t 12)), none⟩,
      ⟨some 66, (.mapGet .string (.s (.int .i64 0)) (.t 64) (.t 65) true), none⟩,
      ⟨some 63, (.move (.t 66)), none⟩,
      ⟨some 67, (.extract (.t 63) 0), none⟩,
      ⟨some 68, (.extract (.t 63) 1), none⟩,
      ⟨some 13, (.move (.t 67)), none⟩,
      ⟨some 14, (.move (.t 68)), none⟩] [] [])
    (.seq (.seq (.region [
      ⟨some 69, (.move (.t 14)), none⟩,
      ⟨some 70, (.un .not (.t 69)), none⟩] [] [])
    (.cond (.t 70)
      (.seq (.region [
        ⟨some 71, (.build [(.s (.slice none 0 0)), (.s (.slice none 0 0))] [(0, 1), (1, 1)] []), none⟩,
        ⟨none, (.store 2 (.t 2) (.t 71)), none⟩,
        ⟨some 3, (.move (.c (.s (.int .i64 4)))), none⟩] [] [])
      .ret)
      .skip))
    (.region [
      ⟨some 72, (.move (.t 7)), none⟩,
      ⟨some 73, (.move (.t 8)), none⟩,
      ⟨some 74, (.move (.t 7)), none⟩,
      ⟨some 75, (.move (.t 8)), none⟩,
      ⟨some 76, (.indexAddr 1 (.t 74) (.t 75)), none⟩,
      ⟨some 77, (.load false 1 (.t 76)), none⟩,
      ⟨some 78, (.move (.t 13)), none⟩,
      ⟨some 79, (.buildSl 1 1 [(.s (.int .i64 0))] [(0, (.t 78))]), none⟩,
      ⟨some 80, (.append 1 8 (.t 77) (.t 79)), none⟩,
      ⟨some 81, (.indexAddr 1 (.t 72) (.t 73)), none⟩,
      ⟨none, (.store 1 (.t 81) (.t 80)), none⟩] [] [])))))
  (.region [
    ⟨some 82, (.bin .add (.t 59) (.c (.s (.int .i64 1)))), none⟩,
    ⟨some 59, (.move (.t 82)), none⟩] [] []))))
def c_cfg_Of_k1 : List Nat := [60, 61, 62, 12, 64, 65, 66, 63, 67, 68, 13, 14, 69, 70, 71, 72, 73, 74, 75, 76, 77, 78, 79, 80, 81, 82]
def c_cfg_Of_l2 : ACode :=
  (.seq (.region [
    ⟨some 33, (.bin .lss (.t 32) (.t 31)), none⟩] [] [])
  (.seq (.cond (.t 33)
    .skip
    (.exit 2))
  (.seq (.block 3
    (.seq (.region [
      ⟨some 34, (.move (.t 32)), none⟩,
      ⟨some 35, (.indexAddr 2 (.t 30) (.t 32)), none⟩,
      ⟨some 36, (.load true 2 (.t 35)), none⟩,
      ⟨some 9, (.alloc [(.s (.string ⟨#[]⟩)), (.s (.slice none 0 0))]), none⟩,
      ⟨some 8, (.move (.t 34)), none⟩,
      ⟨none, (.store 2 (.t 9) (.t 36)), none⟩] [] [])
    (.seq (.seq (.region [
      ⟨some 37, (.fieldAddr 1 (.t 9)), none⟩,
      ⟨some 38, (.load false 1 (.t 37)), none⟩,
      ⟨some 39, (.lenS .s (.t 38)), none⟩,
      ⟨some 40, (.bin .eql (.t 39) (.c (.s (.int .i64 0)))), none⟩] [] [])
    (.cond (.t 40)
      (.seq (.region [
        ⟨some 41, (.build [(.s (.slice none 0 0)), (.s (.slice none 0 0))] [(0, 1), (1, 1)] []), none⟩,
        ⟨none, (.store 2 (.t 2) (.t 41)), none⟩,
        ⟨some 3, (.move (.c (.s (.int .i64 4)))), none⟩] [] [])
      .ret)
      .skip))
    (.seq (.seq (.region [
      ⟨some 42, (.fieldAddr 1 (.t 9)), none⟩,
      ⟨some 43, (.load false 1 (.t 42)), none⟩,
      ⟨some 44, (.fieldAddr 1 (.t 9)), none⟩,
      ⟨some 45, (.load false 1 (.t 44)), none⟩,
      ⟨some 46, (.lenS .s (.t 45)), none⟩,
      ⟨some 47, (.bin .sub (.t 46) (.c (.s (.int .i64 1)))), none⟩,
      ⟨some 48, (.indexAddr 8 (.t 43) (.t 47)), none⟩,
      ⟨some 49, (.load true 8 (.t 48)), none⟩,
      ⟨some 10, (.alloc [(.s (.int .u8 0)), (.s (.string ⟨#[]⟩)), (.s (.string ⟨#[]⟩)), (.s (.string ⟨#[]⟩)), (.s (.int .i64 0)), (.s (.string ⟨#[]⟩)), (.s (.slice none 0 0)), (.s (.slice none 0 0))]), none⟩,
      ⟨none, (.store 8 (.t 10) (.t 49)), none⟩] [] [])
    (.seq (.region [
      ⟨some 50, (.fieldAddr 0 (.t 10)), none⟩,
      ⟨some 51, (.load false 1 (.t 50)), none⟩] [] [])
    (.block 4
      (.seq (.seq (.region [
        ⟨some 54, (.bin .eql (.t 51) (.c (.s (.int .u8 12)))), none⟩,
        ⟨some 53, (.move (.t 54)), none⟩] [] [])
      (.cond (.t 53)
        .skip
        (.region [
          ⟨some 55, (.bin .eql (.t 51) (.c (.s (.int .u8 13)))), none⟩,
          ⟨some 53, (.move (.t 55)), none⟩] [] [])))
      (.cond (.t 53)
        (.seq (.region [
          ⟨some 56, (.fieldAddr 7 (.t 10)), none⟩,
          ⟨some 57, (.load false 1 (.t 56)), none⟩,
          ⟨some 58, (.lenS .s (.t 57)), none⟩,
          ⟨some 59, (.move (.c (.s (.int .i64 0)))), none⟩] [] [])
        (.block 5
          (.loop c_cfg_Of_k1 c_cfg_Of_l1)))
        (.seq (.region [
          ⟨some 84, (.bin .eql (.t 51) (.c (.s (.int .u8 14)))), none⟩,
          ⟨some 83, (.move (.t 84)), none⟩] [] [])
        (.cond (.t 83)
          .skip
          (.seq (.region [
            ⟨some 52, (.build [(.s (.slice none 0 0)), (.s (.slice none 0 0))] [(0, 1), (1, 1)] []), none⟩,
            ⟨none, (.store 2 (.t 2) (.t 52)), none⟩,
            ⟨some 3, (.move (.c (.s (.int .i64 4)))), none⟩] [] [])
          .ret))))))))
    (.seq (.region [
      ⟨some 85, (.move (.t 7)), none⟩,
      ⟨some 86, (.move (.t 8)), none⟩,
      ⟨some 87, (.indexAddr 1 (.t 85) (.t 86)), none⟩,
      ⟨some 88, (.load false 1 (.t 87)), none⟩,
      ⟨some 89, (.call (.c (.fn 22 [] [])) [(.t 88)]), none⟩] [] [])
    (.region [
      ⟨some 90, (.move (.t 7)), none⟩,
      ⟨some 91, (.move (.t 8)), none⟩,
      ⟨some 92, (.move (.t 7)), none⟩,
      ⟨some 93, (.move (.t 8)), none⟩,
      ⟨some 94, (.indexAddr 1 (.t 92) (.t 93)), none⟩,
      ⟨some 95, (.load false 1 (.t 94)), none⟩,
      ⟨some 96, (.call (.c (.fn 23 [] [])) [(.t 95)]), none⟩,
      ⟨some 97, (.indexAddr 1 (.t 90) (.t 91)), none⟩,
      ⟨none, (.store 1 (.t 97) (.t 96)), none⟩] [] []))))))
  (.region [
    ⟨some 98, (.bin .add (.t 32) (.c (.s (.int .i64 1)))), none⟩,
    ⟨some 32, (.move (.t 98)), none⟩] [] []))))
def c_cfg_Of_k2 : List Nat := [33, 34, 35, 36, 9, 8, 37, 38, 39, 40, 41, 42, 43, 44, 45, 46, 47, 48, 49, 10, 50, 51, 54, 53, 55, 56, 57, 58, 59, 60, 61, 62, 12, 64, 65, 66, 63, 67, 68, 13, 14, 69, 70, 71, 72, 73, 74, 75, 76, 77, 78, 79, 80, 81, 82, 84, 83, 52, 85, 86, 87, 88, 89, 90, 91, 92, 93, 94, 95, 96, 97, 98]
def c_cfg_Of : ACFun := { ntmps := 103, results := [(.cell 2 true 2), (.tmp 3)], body :=
  (.seq (.region [
    ⟨some 1, (.box (.t 0)), none⟩,
    ⟨some 2, (.alloc [(.s (.slice none 0 0)), (.s (.slice none 0 0))]), none⟩,
    ⟨some 3, (.move (.c (.s (.int .i64 0)))), none⟩] [] [])
  (.seq (.region [
    ⟨some 15, .mapNew, none⟩,
    ⟨some 4, (.alloc [(.s (.map none))]), none⟩,
    ⟨none, (.store 1 (.t 4) (.t 15)), none⟩] [] [])
  (.seq (.seq (.region [
    ⟨some 16, (.fieldAddr 2 (.t 1)), none⟩,
    ⟨some 17, (.load false 1 (.t 16)), none⟩,
    ⟨some 18, (.call (.c (.fn 21 [] [])) [(.t 17)]), none⟩] [] [])
  (.block 0
    (.rangeFunc (.t 18) [19, 20] c_cfg_Of_a0 c_cfg_Of_b0)))
  (.seq (.region [
    ⟨some 25, (.fieldAddr 2 (.t 1)), none⟩,
    ⟨some 26, (.load false 1 (.t 25)), none⟩,
    ⟨some 27, (.lenS .s (.t 26)), none⟩,
    ⟨some 28, (.mkSl [(.s (.slice none 0 0))] 1 24 (.t 27) (.t 27)), none⟩,
    ⟨some 7, (.move (.t 28)), none⟩] [] [])
  (.seq (.seq (.region [
    ⟨some 29, (.fieldAddr 2 (.t 1)), none⟩,
    ⟨some 30, (.load false 1 (.t 29)), none⟩,
    ⟨some 31, (.lenS .s (.t 30)), none⟩,
    ⟨some 32, (.move (.c (.s (.int .i64 0)))), none⟩] [] [])
  (.block 2
    (.loop c_cfg_Of_k2 c_cfg_Of_l2)))
  (.seq (.region [
    ⟨some 99, (.move (.t 7)), none⟩,
    ⟨some 100, (.move (.t 7)), none⟩,
    ⟨some 101, (.call (.c (.fn 24 [] [])) [(.t 100)]), none⟩,
    ⟨some 102, (.build [(.s (.slice none 0 0)), (.s (.slice none 0 0))] [(0, 1), (1, 1)] [(0, (.t 99)), (1, (.t 101))]), none⟩,
    ⟨none, (.store 2 (.t 2) (.t 102)), none⟩,
    ⟨some 3, (.move (.c (.s (.int .i64 0)))), none⟩] [] [])
  .ret)))))) }
def c_gnomonlaw10_rows_l0 : ACode :=
  (.seq (.seq (.region [
    ⟨some 29, (.move (.t 6)), none⟩,
    ⟨some 30, (.move (.t 0)), none⟩,
    ⟨some 31, (.move (.t 5)), none⟩,
    ⟨some 32, (.indexAddr 1 (.t 30) (.t 31)), none⟩,
    ⟨some 33, (.load false 1 (.t 32)), none⟩,
    ⟨some 34, (.lenS .s (.t 33)), none⟩,
    ⟨some 35, (.bin .lss (.t 29) (.t 34)), none⟩] [] [])
  (.cond (.t 35)
    .skip
    (.exit 2)))
  (.seq (.block 3
    (.seq (.region [
      ⟨some 38, (.move (.t 0)), none⟩,
      ⟨some 39, (.move (.t 5)), none⟩,
      ⟨some 40, (.indexAddr 1 (.t 38) (.t 39)), none⟩,
      ⟨some 41, (.load false 1 (.t 40)), none⟩,
      ⟨some 42, (.move (.t 6)), none⟩,
      ⟨some 43, (.indexAddr 1 (.t 41) (.t 42)), none⟩,
      ⟨some 44, (.load false 1 (.t 43)), none⟩,
      ⟨some 45, (.move (.t 1)), none⟩,
      ⟨some 46, (.move (.t 5)), none⟩,
      ⟨some 47, (.indexAddr 1 (.t 45) (.t 46)), none⟩,
      ⟨some 48, (.load false 1 (.t 47)), none⟩,
      ⟨some 49, (.move (.t 6)), none⟩,
      ⟨some 50, (.indexAddr 1 (.t 48) (.t 49)), none⟩,
      ⟨some 51, (.load false 1 (.t 50)), none⟩,
      ⟨some 52, (.bin .neq (.t 44) (.t 51)), none⟩] [] [])
    (.cond (.t 52)
      (.seq (.region [
        ⟨some 4, (.move (.c (.s (.bool false)))), none⟩] [] [])
      .ret)
      .skip)))
  (.region [
    ⟨some 36, (.move (.t 6)), none⟩,
    ⟨some 37, (.bin .add (.t 36) (.c (.s (.int .i64 1)))), none⟩,
    ⟨some 6, (.move (.t 37)), none⟩] [] [])))
def c_gnomonlaw10_rows_k0 : List Nat := [29, 30, 31, 32, 33, 34, 35, 38, 39, 40, 41, 42, 43, 44, 45, 46, 47, 48, 49, 50, 51, 52, 36, 37]
def c_gnomonlaw10_rows_l1 : ACode :=
  (.seq (.seq (.region [
    ⟨some 12, (.move (.t 5)), none⟩,
    ⟨some 13, (.move (.t 0)), none⟩,
    ⟨some 14, (.lenS .s (.t 13)), none⟩,
    ⟨some 15, (.bin .lss (.t 12) (.t 14)), none⟩] [] [])
  (.cond (.t 15)
    .skip
    (.exit 0)))
  (.seq (.block 1
    (.seq (.seq (.region [
      ⟨some 18, (.move (.t 0)), none⟩,
      ⟨some 19, (.move (.t 5)), none⟩,
      ⟨some 20, (.indexAddr 1 (.t 18) (.t 19)), none⟩,
      ⟨some 21, (.load false 1 (.t 20)), none⟩,
      ⟨some 22, (.lenS .s (.t 21)), none⟩,
      ⟨some 23, (.move (.t 1)), none⟩,
      ⟨some 24, (.move (.t 5)), none⟩,
      ⟨some 25, (.indexAddr 1 (.t 23) (.t 24)), none⟩,
      ⟨some 26, (.load false 1 (.t 25)), none⟩,
      ⟨some 27, (.lenS .s (.t 26)), none⟩,
      ⟨some 28, (.bin .neq (.t 22) (.t 27)), none⟩] [] [])
    (.cond (.t 28)
      (.seq (.region [
        ⟨some 4, (.move (.c (.s (.bool false)))), none⟩] [] [])
      .ret)
      .skip))
    (.seq (.region [
      ⟨some 6, (.move (.c (.s (.int .i64 0)))), none⟩] [] [])
    (.block 2
      (.loop c_gnomonlaw10_rows_k0 c_gnomonlaw10_rows_l0)))))
  (.region [
    ⟨some 16, (.move (.t 5)), none⟩,
    ⟨some 17, (.bin .add (.t 16) (.c (.s (.int .i64 1)))), none⟩,
    ⟨some 5, (.move (.t 17)), none⟩] [] [])))
def c_gnomonlaw10_rows_k1 : List Nat := [12, 13, 14, 15, 18, 19, 20, 21, 22, 23, 24, 25, 26, 27, 28, 6, 29, 30, 31, 32, 33, 34, 35, 38, 39, 40, 41, 42, 43, 44, 45, 46, 47, 48, 49, 50, 51, 52, 36, 37, 16, 17]
def c_gnomonlaw10_rows : ACFun := { ntmps := 53, results := [(.tmp 4)], body :=
  (.seq (.region [
    ⟨some 4, (.move (.c (.s (.bool false)))), none⟩] [] [])
  (.seq (.seq (.region [
    ⟨some 7, (.move (.t 0)), none⟩,
    ⟨some 8, (.lenS .s (.t 7)), none⟩,
    ⟨some 9, (.move (.t 1)), none⟩,
    ⟨some 10, (.lenS .s (.t 9)), none⟩,
    ⟨some 11, (.bin .neq (.t 8) (.t 10)), none⟩] [] [])
  (.cond (.t 11)
    (.seq (.region [
      ⟨some 4, (.move (.c (.s (.bool false)))), none⟩] [] [])
    .ret)
    .skip))
  (.seq (.seq (.region [
    ⟨some 5, (.move (.c (.s (.int .i64 0)))), none⟩] [] [])
  (.block 0
    (.loop c_gnomonlaw10_rows_k1 c_gnomonlaw10_rows_l1)))
  (.seq (.region [
    ⟨some 4, (.move (.c (.s (.bool true)))), none⟩] [] [])
  .ret)))) }
def c_cfg_Loops : ACFun := { ntmps := 15, results := [(.tmp 2)], body :=
  (.seq (.region [
    ⟨some 1, (.box (.t 0)), none⟩,
    ⟨some 2, (.move (.c (.s (.slice none 0 0)))), none⟩] [] [])
  (.seq (.region [
    ⟨some 6, (.load true 3 (.t 1)), none⟩,
    ⟨some 7, (.call (.c (.fn 13 [] [])) [(.t 6)]), none⟩,
    ⟨some 5, (.move (.t 7)), none⟩,
    ⟨some 8, (.extract (.t 5) 0), none⟩,
    ⟨some 9, (.extract (.t 5) 1), none⟩,
    ⟨some 3, (.alloc [(.s (.slice none 0 0)), (.s (.slice none 0 0))]), none⟩,
    ⟨none, (.store 2 (.t 3) (.t 8)), none⟩,
    ⟨some 4, (.move (.t 9)), none⟩] [] [])
  (.seq (.seq (.region [
    ⟨some 10, (.move (.t 4)), none⟩,
    ⟨some 11, (.bin .neq (.t 10) (.c (.s (.int .i64 0)))), none⟩] [] [])
  (.cond (.t 11)
    (.seq (.region [
      ⟨some 2, (.move (.c (.s (.slice none 0 0)))), none⟩] [] [])
    .ret)
    .skip))
  (.seq (.region [
    ⟨some 12, (.fieldAddr 0 (.t 3)), none⟩,
    ⟨some 13, (.load false 1 (.t 12)), none⟩,
    ⟨some 14, (.call (.c (.fn 25 [] [])) [(.t 13)]), none⟩,
    ⟨some 2, (.move (.t 14)), none⟩] [] [])
  .ret)))) }
def c_gnomonlaw10_name : ACFun := { ntmps := 14, results := [(.tmp 2)], body :=
  (.seq (.region [
    ⟨some 2, (.move (.c (.s (.string ⟨#[]⟩)))), none⟩] [] [])
  (.seq (.region [
    ⟨some 3, (.move (.t 0)), none⟩,
    ⟨some 4, (.bin .quo (.t 3) (.c (.s (.int .i64 10)))), none⟩,
    ⟨some 5, (.bin .add (.c (.s (.int .i64 48))) (.t 4)), none⟩,
    ⟨some 6, (.conv .u8 (.t 5)), none⟩,
    ⟨some 7, (.move (.t 0)), none⟩,
    ⟨some 8, (.bin .rem (.t 7) (.c (.s (.int .i64 10)))), none⟩,
    ⟨some 9, (.bin .add (.c (.s (.int .i64 48))) (.t 8)), none⟩,
    ⟨some 10, (.conv .u8 (.t 9)), none⟩,
    ⟨some 11, (.buildSl 1 2 [(.s (.int .u8 0)), (.s (.int .u8 0))] [(0, (.t 6)), (1, (.t 10))]), none⟩,
    ⟨some 12, (.bstr (.t 11)), none⟩,
    ⟨some 13, (.bin .add (.c (.s (.string ⟨#[98]⟩))) (.t 12)), none⟩,
    ⟨some 2, (.move (.t 13)), none⟩] [] [])
  .ret)) }
def c_gnomonlaw10_CfgKnown_1 : ACFun := { ntmps := 8, results := [(.cell 4 true 2)], body :=
  (.seq (.region [
    ⟨some 4, (.alloc [(.s (.string ⟨#[]⟩)), (.s (.slice none 0 0))]), none⟩] [] [])
  (.seq (.region [
    ⟨some 5, (.move (.t 0)), none⟩,
    ⟨some 6, (.move (.t 1)), none⟩,
    ⟨some 7, (.build [(.s (.string ⟨#[]⟩)), (.s (.slice none 0 0))] [(0, 1), (1, 1)] [(0, (.t 5)), (1, (.t 6))]), none⟩,
    ⟨none, (.store 2 (.t 4) (.t 7)), none⟩] [] [])
  .ret)) }
def c_cfg_some : ACFun := { ntmps := 5, results := [(.tmp 2)], body :=
  (.seq (.region [
    ⟨some 2, (.move (.c (.s (.slice none 0 0)))), none⟩] [] [])
  (.seq (.region [
    ⟨some 3, (.move (.t 0)), none⟩,
    ⟨some 4, (.call (.c (.fn 26 [] [])) [(.t 3), (.c (.fn 27 [] []))]), none⟩,
    ⟨some 2, (.move (.t 4)), none⟩] [] [])
  .ret)) }
def c_gnomonref05_sameTexts_l0 : ACode :=
  (.seq (.seq (.region [
    ⟨some 11, (.move (.t 5)), none⟩,
    ⟨some 12, (.move (.t 0)), none⟩,
    ⟨some 13, (.lenS .s (.t 12)), none⟩,
    ⟨some 14, (.bin .lss (.t 11) (.t 13)), none⟩] [] [])
  (.cond (.t 14)
    .skip
    (.exit 0)))
  (.seq (.block 1
    (.seq (.region [
      ⟨some 17, (.move (.t 0)), none⟩,
      ⟨some 18, (.move (.t 5)), none⟩,
      ⟨some 19, (.indexAddr 1 (.t 17) (.t 18)), none⟩,
      ⟨some 20, (.load false 1 (.t 19)), none⟩,
      ⟨some 21, (.move (.t 1)), none⟩,
      ⟨some 22, (.move (.t 5)), none⟩,
      ⟨some 23, (.indexAddr 1 (.t 21) (.t 22)), none⟩,
      ⟨some 24, (.load false 1 (.t 23)), none⟩,
      ⟨some 25, (.bin .neq (.t 20) (.t 24)), none⟩] [] [])
    (.cond (.t 25)
      (.seq (.region [
        ⟨some 4, (.move (.c (.s (.bool false)))), none⟩] [] [])
      .ret)
      .skip)))
  (.region [
    ⟨some 15, (.move (.t 5)), none⟩,
    ⟨some 16, (.bin .add (.t 15) (.c (.s (.int .i64 1)))), none⟩,
    ⟨some 5, (.move (.t 16)), none⟩] [] [])))
def c_gnomonref05_sameTexts_k0 : List Nat := [11, 12, 13, 14, 17, 18, 19, 20, 21, 22, 23, 24, 25, 15, 16]
def c_gnomonref05_sameTexts : ACFun := { ntmps := 26, results := [(.tmp 4)], body :=
  (.seq (.region [
    ⟨some 4, (.move (.c (.s (.bool false)))), none⟩] [] [])
  (.seq (.seq (.region [
    ⟨some 6, (.move (.t 0)), none⟩,
    ⟨some 7, (.lenS .s (.t 6)), none⟩,
    ⟨some 8, (.move (.t 1)), none⟩,
    ⟨some 9, (.lenS .s (.t 8)), none⟩,
    ⟨some 10, (.bin .neq (.t 7) (.t 9)), none⟩] [] [])
  (.cond (.t 10)
    (.seq (.region [
      ⟨some 4, (.move (.c (.s (.bool false)))), none⟩] [] [])
    .ret)
    .skip))
  (.seq (.seq (.region [
    ⟨some 5, (.move (.c (.s (.int .i64 0)))), none⟩] [] [])
  (.block 0
    (.loop c_gnomonref05_sameTexts_k0 c_gnomonref05_sameTexts_l0)))
  (.seq (.region [
    ⟨some 4, (.move (.c (.s (.bool true)))), none⟩] [] [])
  .ret)))) }
def c_slices_Backward_api_Block_api_Block : ACFun := { ntmps := 4, results := [(.tmp 2)], body :=
  (.seq (.region [
    ⟨some 1, (.box (.t 0)), none⟩,
    ⟨some 2, (.move (.c (.s .nilFunc))), none⟩] [] [])
  (.seq (.region [
    ⟨some 3, (.mkFn 28 [] [(.t 1)]), none⟩,
    ⟨some 2, (.move (.t 3)), none⟩] [] [])
  .ret)) }
def c_slices_Sort_int_int : ACFun := { ntmps := 11, results := [], body :=
  (.seq (.region [
    ⟨some 3, (.move (.t 0)), none⟩,
    ⟨some 4, (.lenS .s (.t 3)), none⟩,
    ⟨some 2, (.move (.t 4)), none⟩] [] [])
  (.region [
    ⟨some 5, (.move (.t 0)), none⟩,
    ⟨some 6, (.move (.t 2)), none⟩,
    ⟨some 7, (.move (.t 2)), none⟩,
    ⟨some 8, (.conv .u64 (.t 7)), none⟩,
    ⟨some 9, (.call (.c (.fn 30 [] [])) [(.t 8)]), none⟩,
    ⟨some 10, (.call (.c (.fn 29 [] [])) [(.t 5), (.c (.s (.int .i64 0))), (.t 6), (.t 9)]), none⟩] [] [])) }
def c_slices_Compact_int_int_l0 : ACode :=
  (.seq (.seq (.region [
    ⟨some 29, (.move (.t 5)), none⟩,
    ⟨some 30, (.move (.t 4)), none⟩,
    ⟨some 31, (.lenS .s (.t 30)), none⟩,
    ⟨some 32, (.bin .lss (.t 29) (.t 31)), none⟩] [] [])
  (.cond (.t 32)
    .skip
    (.exit 2)))
  (.seq (.block 3
    (.seq (.region [
      ⟨some 35, (.move (.t 4)), none⟩,
      ⟨some 36, (.move (.t 5)), none⟩,
      ⟨some 37, (.indexAddr 1 (.t 35) (.t 36)), none⟩,
      ⟨some 38, (.load false 1 (.t 37)), none⟩,
      ⟨some 39, (.move (.t 4)), none⟩,
      ⟨some 40, (.move (.t 5)), none⟩,
      ⟨some 41, (.bin .sub (.t 40) (.c (.s (.int .i64 1)))), none⟩,
      ⟨some 42, (.indexAddr 1 (.t 39) (.t 41)), none⟩,
      ⟨some 43, (.load false 1 (.t 42)), none⟩,
      ⟨some 44, (.bin .neq (.t 38) (.t 43)), none⟩] [] [])
    (.cond (.t 44)
      (.seq (.region [
        ⟨some 45, (.move (.t 0)), none⟩,
        ⟨some 46, (.move (.t 3)), none⟩,
        ⟨some 47, (.move (.t 4)), none⟩,
        ⟨some 48, (.move (.t 5)), none⟩,
        ⟨some 49, (.indexAddr 1 (.t 47) (.t 48)), none⟩,
        ⟨some 50, (.load false 1 (.t 49)), none⟩,
        ⟨some 51, (.indexAddr 1 (.t 45) (.t 46)), none⟩,
        ⟨none, (.store 1 (.t 51) (.t 50)), none⟩] [] [])
      (.region [
        ⟨some 52, (.move (.t 3)), none⟩,
        ⟨some 53, (.bin .add (.t 52) (.c (.s (.int .i64 1)))), none⟩,
        ⟨some 3, (.move (.t 53)), none⟩] [] []))
      .skip)))
  (.region [
    ⟨some 33, (.move (.t 5)), none⟩,
    ⟨some 34, (.bin .add (.t 33) (.c (.s (.int .i64 1)))), none⟩,
    ⟨some 5, (.move (.t 34)), none⟩] [] [])))
def c_slices_Compact_int_int_k0 : List Nat := [29, 30, 31, 32, 35, 36, 37, 38, 39, 40, 41, 42, 43, 44, 45, 46, 47, 48, 49, 50, 51, 52, 53, 33, 34]
def c_slices_Compact_int_int_l1 : ACode :=
  (.seq (.seq (.region [
    ⟨some 10, (.move (.t 3)), none⟩,
    ⟨some 11, (.move (.t 0)), none⟩,
    ⟨some 12, (.lenS .s (.t 11)), none⟩,
    ⟨some 13, (.bin .lss (.t 10) (.t 12)), none⟩] [] [])
  (.cond (.t 13)
    .skip
    (.exit 0)))
  (.seq (.block 1
    (.seq (.region [
      ⟨some 16, (.move (.t 0)), none⟩,
      ⟨some 17, (.move (.t 3)), none⟩,
      ⟨some 18, (.indexAddr 1 (.t 16) (.t 17)), none⟩,
      ⟨some 19, (.load false 1 (.t 18)), none⟩,
      ⟨some 20, (.move (.t 0)), none⟩,
      ⟨some 21, (.move (.t 3)), none⟩,
      ⟨some 22, (.bin .sub (.t 21) (.c (.s (.int .i64 1)))), none⟩,
      ⟨some 23, (.indexAddr 1 (.t 20) (.t 22)), none⟩,
      ⟨some 24, (.load false 1 (.t 23)), none⟩,
      ⟨some 25, (.bin .eql (.t 19) (.t 24)), none⟩] [] [])
    (.cond (.t 25)
      (.seq (.region [
        ⟨some 26, (.move (.t 0)), none⟩,
        ⟨some 27, (.move (.t 3)), none⟩,
        ⟨some 28, (.subSl 1 (.t 26) (some (.t 27)) none none), none⟩,
        ⟨some 4, (.move (.t 28)), none⟩] [] [])
      (.seq (.seq (.region [
        ⟨some 5, (.move (.c (.s (.int .i64 1)))), none⟩] [] [])
      (.block 2
        (.loop c_slices_Compact_int_int_k0 c_slices_Compact_int_int_l0)))
      (.seq (.region [
        ⟨some 54, (.move (.t 0)), none⟩,
        ⟨some 55, (.move (.t 3)), none⟩,
        ⟨some 56, (.subSl 1 (.t 54) (some (.t 55)) none none), none⟩,
        ⟨none, (.clearSl 1 [(.s (.int .i64 0))] (.t 56)), none⟩] [] [])
      (.seq (.region [
        ⟨some 57, (.move (.t 0)), none⟩,
        ⟨some 58, (.move (.t 3)), none⟩,
        ⟨some 59, (.subSl 1 (.t 57) none (some (.t 58)) none), none⟩,
        ⟨some 2, (.move (.t 59)), none⟩] [] [])
      .ret))))
      .skip)))
  (.region [
    ⟨some 14, (.move (.t 3)), none⟩,
    ⟨some 15, (.bin .add (.t 14) (.c (.s (.int .i64 1)))), none⟩,
    ⟨some 3, (.move (.t 15)), none⟩] [] [])))
def c_slices_Compact_int_int_k1 : List Nat := [10, 11, 12, 13, 16, 17, 18, 19, 20, 21, 22, 23, 24, 25, 26, 27, 28, 4, 5, 29, 30, 31, 32, 35, 36, 37, 38, 39, 40, 41, 42, 43, 44, 45, 46, 47, 48, 49, 50, 51, 52, 53, 33, 34, 54, 55, 56, 57, 58, 59, 14, 15]
def c_slices_Compact_int_int : ACFun := { ntmps := 61, results := [(.tmp 2)], body :=
  (.seq (.region [
    ⟨some 2, (.move (.c (.s (.slice none 0 0)))), none⟩] [] [])
  (.seq (.seq (.region [
    ⟨some 6, (.move (.t 0)), none⟩,
    ⟨some 7, (.lenS .s (.t 6)), none⟩,
    ⟨some 8, (.bin .lss (.t 7) (.c (.s (.int .i64 2)))), none⟩] [] [])
  (.cond (.t 8)
    (.seq (.region [
      ⟨some 9, (.move (.t 0)), none⟩,
      ⟨some 2, (.move (.t 9)), none⟩] [] [])
    .ret)
    .skip))
  (.seq (.seq (.region [
    ⟨some 3, (.move (.c (.s (.int .i64 1)))), none⟩] [] [])
  (.block 0
    (.loop c_slices_Compact_int_int_k1 c_slices_Compact_int_int_l1)))
  (.seq (.region [
    ⟨some 60, (.move (.t 0)), none⟩,
    ⟨some 2, (.move (.t 60)), none⟩] [] [])
  .ret)))) }
def c_graph_Back_l0 : ACode :=
  (.seq (.region [
    ⟨some 22, (.bin .lss (.t 21) (.t 20)), none⟩] [] [])
  (.seq (.cond (.t 22)
    .skip
    (.exit 2))
  (.seq (.block 3
    (.seq (.region [
      ⟨some 23, (.indexAddr 1 (.t 19) (.t 21)), none⟩,
      ⟨some 24, (.load false 1 (.t 23)), none⟩,
      ⟨some 7, (.move (.t 24)), none⟩] [] [])
    (.region [
      ⟨some 25, (.move (.t 3)), none⟩,
      ⟨some 26, (.move (.t 7)), none⟩,
      ⟨some 27, (.move (.t 3)), none⟩,
      ⟨some 28, (.move (.t 7)), none⟩,
      ⟨some 29, (.indexAddr 1 (.t 27) (.t 28)), none⟩,
      ⟨some 30, (.load false 1 (.t 29)), none⟩,
      ⟨some 31, (.move (.t 4)), none⟩,
      ⟨some 32, (.buildSl 1 1 [(.s (.int .i64 0))] [(0, (.t 31))]), none⟩,
      ⟨some 33, (.append 1 8 (.t 30) (.t 32)), none⟩,
      ⟨some 34, (.indexAddr 1 (.t 25) (.t 26)), none⟩,
      ⟨none, (.store 1 (.t 34) (.t 33)), none⟩] [] [])))
  (.region [
    ⟨some 35, (.bin .add (.t 21) (.c (.s (.int .i64 1)))), none⟩,
    ⟨some 21, (.move (.t 35)), none⟩] [] []))))
def c_graph_Back_k0 : List Nat := [22, 23, 24, 7, 25, 26, 27, 28, 29, 30, 31, 32, 33, 34, 35]
def c_graph_Back_l1 : ACode :=
  (.seq (.region [
    ⟨some 15, (.bin .lss (.t 14) (.t 13)), none⟩] [] [])
  (.seq (.cond (.t 15)
    .skip
    (.exit 0))
  (.seq (.block 1
    (.seq (.region [
      ⟨some 16, (.move (.t 14)), none⟩,
      ⟨some 17, (.indexAddr 1 (.t 12) (.t 14)), none⟩,
      ⟨some 18, (.load false 1 (.t 17)), none⟩,
      ⟨some 4, (.move (.t 16)), none⟩,
      ⟨some 5, (.move (.t 18)), none⟩] [] [])
    (.seq (.region [
      ⟨some 19, (.move (.t 5)), none⟩,
      ⟨some 20, (.lenS .s (.t 19)), none⟩,
      ⟨some 21, (.move (.c (.s (.int .i64 0)))), none⟩] [] [])
    (.block 2
      (.loop c_graph_Back_k0 c_graph_Back_l0)))))
  (.region [
    ⟨some 36, (.bin .add (.t 14) (.c (.s (.int .i64 1)))), none⟩,
    ⟨some 14, (.move (.t 36)), none⟩] [] []))))
def c_graph_Back_k1 : List Nat := [15, 16, 17, 18, 4, 5, 19, 20, 21, 22, 23, 24, 7, 25, 26, 27, 28, 29, 30, 31, 32, 33, 34, 35, 36]
def c_graph_Back : ACFun := { ntmps := 38, results := [(.tmp 2)], body :=
  (.seq (.region [
    ⟨some 2, (.move (.c (.s (.slice none 0 0)))), none⟩] [] [])
  (.seq (.region [
    ⟨some 8, (.move (.t 0)), none⟩,
    ⟨some 9, (.lenS .s (.t 8)), none⟩,
    ⟨some 10, (.mkSl [(.s (.slice none 0 0))] 1 24 (.t 9) (.t 9)), none⟩,
    ⟨some 3, (.move (.t 10)), none⟩] [] [])
  (.seq (.seq (.region [
    ⟨some 11, (.move (.t 0)), none⟩,
    ⟨some 12, (.call (.c (.fn 31 [] [])) [(.t 11)]), none⟩,
    ⟨some 13, (.lenS .s (.t 12)), none⟩,
    ⟨some 14, (.move (.c (.s (.int .i64 0)))), none⟩] [] [])
  (.block 0
    (.loop c_graph_Back_k1 c_graph_Back_l1)))
  (.seq (.region [
    ⟨some 37, (.move (.t 3)), none⟩,
    ⟨some 2, (.move (.t 37)), none⟩] [] [])
  .ret)))) }
def c_scc_Cyclic_l0 : ACode :=
  (.seq (.region [
    ⟨some 18, (.bin .lss (.t 17) (.t 16)), none⟩] [] [])
  (.seq (.cond (.t 18)
    .skip
    (.exit 0))
  (.seq (.block 1
    (.seq (.region [
      ⟨some 19, (.indexAddr 1 (.t 15) (.t 17)), none⟩,
      ⟨some 20, (.load false 1 (.t 19)), none⟩,
      ⟨some 6, (.move (.t 20)), none⟩] [] [])
    (.region [
      ⟨some 21, (.move (.t 4)), none⟩,
      ⟨some 22, (.move (.t 6)), none⟩,
      ⟨some 23, (.indexAddr 1 (.t 21) (.t 22)), none⟩,
      ⟨some 24, (.load false 1 (.t 23)), none⟩,
      ⟨some 25, (.bin .add (.t 24) (.c (.s (.int .i64 1)))), none⟩,
      ⟨some 26, (.indexAddr 1 (.t 21) (.t 22)), none⟩,
      ⟨none, (.store 1 (.t 26) (.t 25)), none⟩] [] [])))
  (.region [
    ⟨some 27, (.bin .add (.t 17) (.c (.s (.int .i64 1)))), none⟩,
    ⟨some 17, (.move (.t 27)), none⟩] [] []))))
def c_scc_Cyclic_k0 : List Nat := [18, 19, 20, 6, 21, 22, 23, 24, 25, 26, 27]
def c_scc_Cyclic_l1 : ACode :=
  (.seq (.region [
    ⟨some 34, (.bin .lss (.t 33) (.t 32)), none⟩] [] [])
  (.seq (.cond (.t 34)
    .skip
    (.exit 2))
  (.seq (.block 3
    (.seq (.region [
      ⟨some 35, (.move (.t 33)), none⟩,
      ⟨some 36, (.indexAddr 1 (.t 31) (.t 33)), none⟩,
      ⟨some 37, (.load false 1 (.t 36)), none⟩,
      ⟨some 8, (.move (.t 35)), none⟩,
      ⟨some 9, (.move (.t 37)), none⟩] [] [])
    (.region [
      ⟨some 38, (.move (.t 7)), none⟩,
      ⟨some 39, (.move (.t 8)), none⟩,
      ⟨some 40, (.move (.t 4)), none⟩,
      ⟨some 41, (.move (.t 9)), none⟩,
      ⟨some 42, (.indexAddr 1 (.t 40) (.t 41)), none⟩,
      ⟨some 43, (.load false 1 (.t 42)), none⟩,
      ⟨some 44, (.bin .gtr (.t 43) (.c (.s (.int .i64 1)))), none⟩,
      ⟨some 45, (.move (.t 44)), none⟩,
      ⟨some 46, (.move (.t 0)), some (45, false)⟩,
      ⟨some 47, (.move (.t 8)), some (45, false)⟩,
      ⟨some 48, (.indexAddr 1 (.t 46) (.t 47)), some (45, false)⟩,
      ⟨some 49, (.load false 1 (.t 48)), some (45, false)⟩,
      ⟨some 50, (.move (.t 8)), some (45, false)⟩,
      ⟨some 51, (.call (.c (.fn 34 [] [])) [(.t 49), (.t 50)]), some (45, false)⟩,
      ⟨some 52, (.pick (.t 45) (.c (.s (.bool true))) (.t 51)), none⟩,
      ⟨some 53, (.indexAddr 1 (.t 38) (.t 39)), none⟩,
      ⟨none, (.store 1 (.t 53) (.t 52)), none⟩] [] [])))
  (.region [
    ⟨some 54, (.bin .add (.t 33) (.c (.s (.int .i64 1)))), none⟩,
    ⟨some 33, (.move (.t 54)), none⟩] [] []))))
def c_scc_Cyclic_k1 : List Nat := [34, 35, 36, 37, 8, 9, 38, 39, 40, 41, 42, 43, 44, 45, 46, 47, 48, 49, 50, 51, 52, 53, 54]
def c_scc_Cyclic : ACFun := { ntmps := 56, results := [(.tmp 2)], body :=
  (.seq (.region [
    ⟨some 2, (.move (.c (.s (.slice none 0 0)))), none⟩] [] [])
  (.seq (.region [
    ⟨some 10, (.move (.t 0)), none⟩,
    ⟨some 11, (.call (.c (.fn 32 [] [])) [(.t 10)]), none⟩,
    ⟨some 3, (.move (.t 11)), none⟩] [] [])
  (.seq (.region [
    ⟨some 12, (.move (.t 3)), none⟩,
    ⟨some 13, (.call (.c (.fn 33 [] [])) [(.t 12)]), none⟩,
    ⟨some 14, (.mkSl [(.s (.int .i64 0))] 1 8 (.t 13) (.t 13)), none⟩,
    ⟨some 4, (.move (.t 14)), none⟩] [] [])
  (.seq (.seq (.region [
    ⟨some 15, (.move (.t 3)), none⟩,
    ⟨some 16, (.lenS .s (.t 15)), none⟩,
    ⟨some 17, (.move (.c (.s (.int .i64 0)))), none⟩] [] [])
  (.block 0
    (.loop c_scc_Cyclic_k0 c_scc_Cyclic_l0)))
  (.seq (.region [
    ⟨some 28, (.move (.t 0)), none⟩,
    ⟨some 29, (.lenS .s (.t 28)), none⟩,
    ⟨some 30, (.mkSl [(.s (.bool false))] 1 1 (.t 29) (.t 29)), none⟩,
    ⟨some 7, (.move (.t 30)), none⟩] [] [])
  (.seq (.seq (.region [
    ⟨some 31, (.move (.t 3)), none⟩,
    ⟨some 32, (.lenS .s (.t 31)), none⟩,
    ⟨some 33, (.move (.c (.s (.int .i64 0)))), none⟩] [] [])
  (.block 2
    (.loop c_scc_Cyclic_k1 c_scc_Cyclic_l1)))
  (.seq (.region [
    ⟨some 55, (.move (.t 7)), none⟩,
    ⟨some 2, (.move (.t 55)), none⟩] [] [])
  .ret))))))) }
def c_slices_DeleteFunc_string_string_l0 : ACode :=
  (.seq (.seq (.region [
    ⟨some 16, (.move (.t 6)), none⟩,
    ⟨some 17, (.move (.t 0)), none⟩,
    ⟨some 18, (.lenS .s (.t 17)), none⟩,
    ⟨some 19, (.bin .lss (.t 16) (.t 18)), none⟩] [] [])
  (.cond (.t 19)
    .skip
    (.exit 0)))
  (.seq (.block 1
    (.seq (.region [
      ⟨some 22, (.move (.t 0)), none⟩,
      ⟨some 23, (.move (.t 6)), none⟩,
      ⟨some 24, (.indexAddr 1 (.t 22) (.t 23)), none⟩,
      ⟨some 25, (.load false 1 (.t 24)), none⟩,
      ⟨some 7, (.move (.t 25)), none⟩] [] [])
    (.seq (.region [
      ⟨some 26, (.move (.t 1)), none⟩,
      ⟨some 27, (.move (.t 7)), none⟩,
      ⟨some 28, (.call (.t 26) [(.t 27)]), none⟩,
      ⟨some 29, (.un .not (.t 28)), none⟩] [] [])
    (.cond (.t 29)
      (.seq (.region [
        ⟨some 30, (.move (.t 0)), none⟩,
        ⟨some 31, (.move (.t 5)), none⟩,
        ⟨some 32, (.move (.t 7)), none⟩,
        ⟨some 33, (.indexAddr 1 (.t 30) (.t 31)), none⟩,
        ⟨none, (.store 1 (.t 33) (.t 32)), none⟩] [] [])
      (.region [
        ⟨some 34, (.move (.t 5)), none⟩,
        ⟨some 35, (.bin .add (.t 34) (.c (.s (.int .i64 1)))), none⟩,
        ⟨some 5, (.move (.t 35)), none⟩] [] []))
      .skip))))
  (.region [
    ⟨some 20, (.move (.t 6)), none⟩,
    ⟨some 21, (.bin .add (.t 20) (.c (.s (.int .i64 1)))), none⟩,
    ⟨some 6, (.move (.t 21)), none⟩] [] [])))
def c_slices_DeleteFunc_string_string_k0 : List Nat := [16, 17, 18, 19, 22, 23, 24, 25, 7, 26, 27, 28, 29, 30, 31, 32, 33, 34, 35, 20, 21]
def c_slices_DeleteFunc_string_string : ACFun := { ntmps := 42, results := [(.tmp 4)], body :=
  (.seq (.region [
    ⟨some 4, (.move (.c (.s (.slice none 0 0)))), none⟩] [] [])
  (.seq (.region [
    ⟨some 8, (.move (.t 0)), none⟩,
    ⟨some 9, (.move (.t 1)), none⟩,
    ⟨some 10, (.call (.c (.fn 35 [] [])) [(.t 8), (.t 9)]), none⟩,
    ⟨some 5, (.move (.t 10)), none⟩] [] [])
  (.seq (.seq (.region [
    ⟨some 11, (.move (.t 5)), none⟩,
    ⟨some 12, (.bin .eql (.t 11) (.c (.s (.int .i64 (-1))))), none⟩] [] [])
  (.cond (.t 12)
    (.seq (.region [
      ⟨some 13, (.move (.t 0)), none⟩,
      ⟨some 4, (.move (.t 13)), none⟩] [] [])
    .ret)
    .skip))
  (.seq (.seq (.region [
    ⟨some 14, (.move (.t 5)), none⟩,
    ⟨some 15, (.bin .add (.t 14) (.c (.s (.int .i64 1)))), none⟩,
    ⟨some 6, (.move (.t 15)), none⟩] [] [])
  (.block 0
    (.loop c_slices_DeleteFunc_string_string_k0 c_slices_DeleteFunc_string_string_l0)))
  (.seq (.region [
    ⟨some 36, (.move (.t 0)), none⟩,
    ⟨some 37, (.move (.t 5)), none⟩,
    ⟨some 38, (.subSl 1 (.t 36) (some (.t 37)) none none), none⟩,
    ⟨none, (.clearSl 1 [(.s (.string ⟨#[]⟩))] (.t 38)), none⟩] [] [])
  (.seq (.region [
    ⟨some 39, (.move (.t 0)), none⟩,
    ⟨some 40, (.move (.t 5)), none⟩,
    ⟨some 41, (.subSl 1 (.t 39) none (some (.t 40)) none), none⟩,
    ⟨some 4, (.move (.t 41)), none⟩] [] [])
  .ret)))))) }
def c_cfg_some_1 : ACFun := { ntmps := 9, results := [(.tmp 2)], body :=
  (.seq (.region [
    ⟨some 2, (.move (.c (.s (.bool false)))), none⟩] [] [])
  (.seq (.region [
    ⟨some 3, (.move (.t 0)), none⟩,
    ⟨some 4, (.bin .eql (.t 3) (.c (.s (.string ⟨#[]⟩)))), none⟩,
    ⟨some 5, (.move (.t 4)), none⟩,
    ⟨some 6, (.move (.t 0)), some (5, false)⟩,
    ⟨some 7, (.bin .eql (.t 6) (.c (.s (.string ⟨#[110, 117, 108, 108]⟩)))), some (5, false)⟩,
    ⟨some 8, (.pick (.t 5) (.c (.s (.bool true))) (.t 7)), none⟩,
    ⟨some 2, (.move (.t 8)), none⟩] [] [])
  .ret)) }
def c_slices_Backward_api_Block_api_Block_1_l0 : ACode :=
  (.seq (.seq (.region [
    ⟨some 7, (.move (.t 3)), none⟩,
    ⟨some 8, (.bin .geq (.t 7) (.c (.s (.int .i64 0)))), none⟩] [] [])
  (.cond (.t 8)
    .skip
    (.exit 0)))
  (.seq (.block 1
    (.seq (.region [
      ⟨some 11, (.move (.t 0)), none⟩,
      ⟨some 12, (.move (.t 3)), none⟩,
      ⟨some 13, (.load false 1 (.t 1)), none⟩,
      ⟨some 14, (.move (.t 3)), none⟩,
      ⟨some 15, (.indexAddr 2 (.t 13) (.t 14)), none⟩,
      ⟨some 16, (.load true 2 (.t 15)), none⟩,
      ⟨some 17, (.call (.t 11) [(.t 12), (.t 16)]), none⟩,
      ⟨some 18, (.un .not (.t 17)), none⟩] [] [])
    (.cond (.t 18)
      .ret
      .skip)))
  (.region [
    ⟨some 9, (.move (.t 3)), none⟩,
    ⟨some 10, (.bin .sub (.t 9) (.c (.s (.int .i64 1)))), none⟩,
    ⟨some 3, (.move (.t 10)), none⟩] [] [])))
def c_slices_Backward_api_Block_api_Block_1_k0 : List Nat := [7, 8, 11, 12, 13, 14, 15, 16, 17, 18, 9, 10]
def c_slices_Backward_api_Block_api_Block_1 : ACFun := { ntmps := 19, results := [], body :=
  (.seq (.region [
    ⟨some 4, (.load false 1 (.t 1)), none⟩,
    ⟨some 5, (.lenS .s (.t 4)), none⟩,
    ⟨some 6, (.bin .sub (.t 5) (.c (.s (.int .i64 1)))), none⟩,
    ⟨some 3, (.move (.t 6)), none⟩] [] [])
  (.block 0
    (.loop c_slices_Backward_api_Block_api_Block_1_k0 c_slices_Backward_api_Block_api_Block_1_l0))) }
def c_slices_pdqsortOrdered_int_l0 : ACode :=
  (.block 1
    (.seq (.region [
      ⟨some 19, (.move (.t 2)), none⟩,
      ⟨some 20, (.move (.t 1)), none⟩,
      ⟨some 21, (.bin .sub (.t 19) (.t 20)), none⟩,
      ⟨some 10, (.move (.t 21)), none⟩] [] [])
    (.seq (.seq (.region [
      ⟨some 22, (.move (.t 10)), none⟩,
      ⟨some 23, (.bin .leq (.t 22) (.c (.s (.int .i64 12)))), none⟩] [] [])
    (.cond (.t 23)
      (.seq (.region [
        ⟨some 24, (.move (.t 0)), none⟩,
        ⟨some 25, (.move (.t 1)), none⟩,
        ⟨some 26, (.move (.t 2)), none⟩,
        ⟨some 27, (.call (.c (.fn 36 [] [])) [(.t 24), (.t 25), (.t 26)]), none⟩] [] [])
      .ret)
      .skip))
    (.seq (.seq (.region [
      ⟨some 28, (.move (.t 3)), none⟩,
      ⟨some 29, (.bin .eql (.t 28) (.c (.s (.int .i64 0)))), none⟩] [] [])
    (.cond (.t 29)
      (.seq (.region [
        ⟨some 30, (.move (.t 0)), none⟩,
        ⟨some 31, (.move (.t 1)), none⟩,
        ⟨some 32, (.move (.t 2)), none⟩,
        ⟨some 33, (.call (.c (.fn 37 [] [])) [(.t 30), (.t 31), (.t 32)]), none⟩] [] [])
      .ret)
      .skip))
    (.seq (.seq (.region [
      ⟨some 34, (.move (.t 8)), none⟩,
      ⟨some 35, (.un .not (.t 34)), none⟩] [] [])
    (.cond (.t 35)
      (.seq (.region [
        ⟨some 36, (.move (.t 0)), none⟩,
        ⟨some 37, (.move (.t 1)), none⟩,
        ⟨some 38, (.move (.t 2)), none⟩,
        ⟨some 39, (.call (.c (.fn 38 [] [])) [(.t 36), (.t 37), (.t 38)]), none⟩] [] [])
      (.region [
        ⟨some 40, (.move (.t 3)), none⟩,
        ⟨some 41, (.bin .sub (.t 40) (.c (.s (.int .i64 1)))), none⟩,
        ⟨some 3, (.move (.t 41)), none⟩] [] []))
      .skip))
    (.seq (.region [
      ⟨some 43, (.move (.t 0)), none⟩,
      ⟨some 44, (.move (.t 1)), none⟩,
      ⟨some 45, (.move (.t 2)), none⟩,
      ⟨some 46, (.call (.c (.fn 39 [] [])) [(.t 43), (.t 44), (.t 45)]), none⟩,
      ⟨some 42, (.move (.t 46)), none⟩,
      ⟨some 47, (.extract (.t 42) 0), none⟩,
      ⟨some 48, (.extract (.t 42) 1), none⟩,
      ⟨some 11, (.move (.t 47)), none⟩,
      ⟨some 12, (.move (.t 48)), none⟩] [] [])
    (.seq (.seq (.region [
      ⟨some 49, (.move (.t 12)), none⟩,
      ⟨some 50, (.bin .eql (.t 49) (.c (.s (.int .i64 2)))), none⟩] [] [])
    (.cond (.t 50)
      (.seq (.region [
        ⟨some 51, (.move (.t 0)), none⟩,
        ⟨some 52, (.move (.t 1)), none⟩,
        ⟨some 53, (.move (.t 2)), none⟩,
        ⟨some 54, (.call (.c (.fn 40 [] [])) [(.t 51), (.t 52), (.t 53)]), none⟩] [] [])
      (.seq (.region [
        ⟨some 55, (.move (.t 2)), none⟩,
        ⟨some 56, (.bin .sub (.t 55) (.c (.s (.int .i64 1)))), none⟩,
        ⟨some 57, (.move (.t 11)), none⟩,
        ⟨some 58, (.move (.t 1)), none⟩,
        ⟨some 59, (.bin .sub (.t 57) (.t 58)), none⟩,
        ⟨some 60, (.bin .sub (.t 56) (.t 59)), none⟩,
        ⟨some 11, (.move (.t 60)), none⟩] [] [])
      (.region [
        ⟨some 12, (.move (.c (.s (.int .i64 1)))), none⟩] [] [])))
      .skip))
    (.seq (.seq (.region [
      ⟨some 61, (.move (.t 8)), none⟩,
      ⟨some 62, (.move (.t 61)), none⟩,
      ⟨some 63, (.move (.t 9)), some (62, true)⟩,
      ⟨some 64, (.pick (.t 62) (.t 63) (.c (.s (.bool false)))), none⟩,
      ⟨some 65, (.move (.t 64)), none⟩,
      ⟨some 66, (.move (.t 12)), some (65, true)⟩,
      ⟨some 67, (.bin .eql (.t 66) (.c (.s (.int .i64 1)))), some (65, true)⟩,
      ⟨some 68, (.pick (.t 65) (.t 67) (.c (.s (.bool false)))), none⟩] [] [])
    (.cond (.t 68)
      (.seq (.region [
        ⟨some 69, (.move (.t 0)), none⟩,
        ⟨some 70, (.move (.t 1)), none⟩,
        ⟨some 71, (.move (.t 2)), none⟩,
        ⟨some 72, (.call (.c (.fn 41 [] [])) [(.t 69), (.t 70), (.t 71)]), none⟩] [] [])
      (.cond (.t 72)
        .ret
        .skip))
      .skip))
    (.seq (.seq (.region [
      ⟨some 73, (.move (.t 1)), none⟩,
      ⟨some 74, (.bin .gtr (.t 73) (.c (.s (.int .i64 0)))), none⟩,
      ⟨some 75, (.move (.t 74)), none⟩,
      ⟨some 76, (.move (.t 0)), some (75, true)⟩,
      ⟨some 77, (.move (.t 1)), some (75, true)⟩,
      ⟨some 78, (.bin .sub (.t 77) (.c (.s (.int .i64 1)))), some (75, true)⟩,
      ⟨some 79, (.indexAddr 1 (.t 76) (.t 78)), some (75, true)⟩,
      ⟨some 80, (.load false 1 (.t 79)), some (75, true)⟩,
      ⟨some 81, (.move (.t 0)), some (75, true)⟩,
      ⟨some 82, (.move (.t 11)), some (75, true)⟩,
      ⟨some 83, (.indexAddr 1 (.t 81) (.t 82)), some (75, true)⟩,
      ⟨some 84, (.load false 1 (.t 83)), some (75, true)⟩,
      ⟨some 85, (.call (.c (.fn 42 [] [])) [(.t 80), (.t 84)]), some (75, true)⟩,
      ⟨some 86, (.un .not (.t 85)), some (75, true)⟩,
      ⟨some 87, (.pick (.t 75) (.t 86) (.c (.s (.bool false)))), none⟩] [] [])
    (.cond (.t 87)
      (.seq (.region [
        ⟨some 88, (.move (.t 0)), none⟩,
        ⟨some 89, (.move (.t 1)), none⟩,
        ⟨some 90, (.move (.t 2)), none⟩,
        ⟨some 91, (.move (.t 11)), none⟩,
        ⟨some 92, (.call (.c (.fn 43 [] [])) [(.t 88), (.t 89), (.t 90), (.t 91)]), none⟩,
        ⟨some 13, (.move (.t 92)), none⟩] [] [])
      (.seq (.region [
        ⟨some 93, (.move (.t 13)), none⟩,
        ⟨some 1, (.move (.t 93)), none⟩] [] [])
      (.exit 1)))
      .skip))
    (.seq (.region [
      ⟨some 95, (.move (.t 0)), none⟩,
      ⟨some 96, (.move (.t 1)), none⟩,
      ⟨some 97, (.move (.t 2)), none⟩,
      ⟨some 98, (.move (.t 11)), none⟩,
      ⟨some 99, (.call (.c (.fn 44 [] [])) [(.t 95), (.t 96), (.t 97), (.t 98)]), none⟩,
      ⟨some 94, (.move (.t 99)), none⟩,
      ⟨some 100, (.extract (.t 94) 0), none⟩,
      ⟨some 101, (.extract (.t 94) 1), none⟩,
      ⟨some 14, (.move (.t 100)), none⟩,
      ⟨some 15, (.move (.t 101)), none⟩] [] [])
    (.seq (.region [
      ⟨some 102, (.move (.t 15)), none⟩,
      ⟨some 9, (.move (.t 102)), none⟩] [] [])
    (.seq (.region [
      ⟨some 103, (.move (.t 14)), none⟩,
      ⟨some 104, (.move (.t 1)), none⟩,
      ⟨some 105, (.bin .sub (.t 103) (.t 104)), none⟩,
      ⟨some 106, (.move (.t 2)), none⟩,
      ⟨some 107, (.move (.t 14)), none⟩,
      ⟨some 108, (.bin .sub (.t 106) (.t 107)), none⟩,
      ⟨some 16, (.move (.t 105)), none⟩,
      ⟨some 17, (.move (.t 108)), none⟩] [] [])
    (.seq (.region [
      ⟨some 109, (.move (.t 10)), none⟩,
      ⟨some 110, (.bin .quo (.t 109) (.c (.s (.int .i64 8)))), none⟩,
      ⟨some 18, (.move (.t 110)), none⟩] [] [])
    (.seq (.region [
      ⟨some 111, (.move (.t 16)), none⟩,
      ⟨some 112, (.move (.t 17)), none⟩,
      ⟨some 113, (.bin .lss (.t 111) (.t 112)), none⟩] [] [])
    (.cond (.t 113)
      (.seq (.region [
        ⟨some 114, (.move (.t 16)), none⟩,
        ⟨some 115, (.move (.t 18)), none⟩,
        ⟨some 116, (.bin .geq (.t 114) (.t 115)), none⟩,
        ⟨some 8, (.move (.t 116)), none⟩] [] [])
      (.seq (.region [
        ⟨some 117, (.move (.t 0)), none⟩,
        ⟨some 118, (.move (.t 1)), none⟩,
        ⟨some 119, (.move (.t 14)), none⟩,
        ⟨some 120, (.move (.t 3)), none⟩,
        ⟨some 121, (.call (.c (.fn 29 [] [])) [(.t 117), (.t 118), (.t 119), (.t 120)]), none⟩] [] [])
      (.region [
        ⟨some 122, (.move (.t 14)), none⟩,
        ⟨some 123, (.bin .add (.t 122) (.c (.s (.int .i64 1)))), none⟩,
        ⟨some 1, (.move (.t 123)), none⟩] [] [])))
      (.seq (.region [
        ⟨some 124, (.move (.t 17)), none⟩,
        ⟨some 125, (.move (.t 18)), none⟩,
        ⟨some 126, (.bin .geq (.t 124) (.t 125)), none⟩,
        ⟨some 8, (.move (.t 126)), none⟩] [] [])
      (.seq (.region [
        ⟨some 127, (.move (.t 0)), none⟩,
        ⟨some 128, (.move (.t 14)), none⟩,
        ⟨some 129, (.bin .add (.t 128) (.c (.s (.int .i64 1)))), none⟩,
        ⟨some 130, (.move (.t 2)), none⟩,
        ⟨some 131, (.move (.t 3)), none⟩,
        ⟨some 132, (.call (.c (.fn 29 [] [])) [(.t 127), (.t 129), (.t 130), (.t 131)]), none⟩] [] [])
      (.region [
        ⟨some 133, (.move (.t 14)), none⟩,
        ⟨some 2, (.move (.t 133)), none⟩] [] []))))))))))))))))))
def c_slices_pdqsortOrdered_int_k0 : List Nat := [19, 20, 21, 10, 22, 23, 24, 25, 26, 27, 28, 29, 30, 31, 32, 33, 34, 35, 36, 37, 38, 39, 40, 41, 43, 44, 45, 46, 42, 47, 48, 11, 12, 49, 50, 51, 52, 53, 54, 55, 56, 57, 58, 59, 60, 61, 62, 63, 64, 65, 66, 67, 68, 69, 70, 71, 72, 73, 74, 75, 76, 77, 78, 79, 80, 81, 82, 83, 84, 85, 86, 87, 88, 89, 90, 91, 92, 13, 93, 95, 96, 97, 98, 99, 94, 100, 101, 14, 15, 102, 103, 104, 105, 106, 107, 108, 16, 17, 109, 110, 18, 111, 112, 113, 114, 115, 116, 117, 118, 119, 120, 121, 122, 123, 124, 125, 126, 127, 128, 129, 130, 131, 132, 133]
def c_slices_pdqsortOrdered_int : ACFun := { ntmps := 134, results := [], body :=
  (.seq (.region [
    ⟨some 8, (.move (.c (.s (.bool true)))), none⟩] [] [])
  (.seq (.region [
    ⟨some 9, (.move (.c (.s (.bool true)))), none⟩] [] [])
  (.block 0
    (.loop c_slices_pdqsortOrdered_int_k0 c_slices_pdqsortOrdered_int_l0)))) }
def c_math_bits_Len : ACFun := { ntmps := 8, results := [(.tmp 2)], body :=
  (.seq (.region [
    ⟨some 2, (.move (.c (.s (.int .i64 0)))), none⟩] [] [])
  (.seq (.cond (.c (.s (.bool false)))
    (.seq (.region [
      ⟨some 3, (.move (.t 0)), none⟩,
      ⟨some 4, (.conv .u32 (.t 3)), none⟩,
      ⟨some 5, (.call (.c (.fn 45 [] [])) [(.t 4)]), none⟩,
      ⟨some 2, (.move (.t 5)), none⟩] [] [])
    .ret)
    .skip)
  (.seq (.region [
    ⟨some 6, (.move (.t 0)), none⟩,
    ⟨some 7, (.call (.c (.fn 46 [] [])) [(.t 6)]), none⟩,
    ⟨some 2, (.move (.t 7)), none⟩] [] [])
  .ret))) }
def c_graph_Norm_l0 : ACode :=
  (.seq (.region [
    ⟨some 13, (.bin .lss (.t 12) (.t 11)), none⟩] [] [])
  (.seq (.cond (.t 13)
    .skip
    (.exit 0))
  (.seq (.block 1
    (.seq (.region [
      ⟨some 14, (.move (.t 12)), none⟩,
      ⟨some 15, (.indexAddr 1 (.t 10) (.t 12)), none⟩,
      ⟨some 16, (.load false 1 (.t 15)), none⟩,
      ⟨some 4, (.move (.t 14)), none⟩,
      ⟨some 5, (.move (.t 16)), none⟩] [] [])
    (.seq (.region [
      ⟨some 17, (.move (.t 5)), none⟩,
      ⟨some 18, (.call (.c (.fn 48 [] [])) [(.t 17)]), none⟩,
      ⟨some 19, (.mkFn 49 [] [(.t 1)]), none⟩,
      ⟨some 20, (.call (.c (.fn 47 [] [])) [(.t 18), (.t 19)]), none⟩,
      ⟨some 6, (.move (.t 20)), none⟩] [] [])
    (.seq (.region [
      ⟨some 21, (.move (.t 6)), none⟩,
      ⟨some 22, (.call (.c (.fn 22 [] [])) [(.t 21)]), none⟩] [] [])
    (.region [
      ⟨some 23, (.move (.t 3)), none⟩,
      ⟨some 24, (.move (.t 4)), none⟩,
      ⟨some 25, (.move (.t 6)), none⟩,
      ⟨some 26, (.call (.c (.fn 23 [] [])) [(.t 25)]), none⟩,
      ⟨some 27, (.indexAddr 1 (.t 23) (.t 24)), none⟩,
      ⟨none, (.store 1 (.t 27) (.t 26)), none⟩] [] [])))))
  (.region [
    ⟨some 28, (.bin .add (.t 12) (.c (.s (.int .i64 1)))), none⟩,
    ⟨some 12, (.move (.t 28)), none⟩] [] []))))
def c_graph_Norm_k0 : List Nat := [13, 14, 15, 16, 4, 5, 17, 18, 19, 20, 6, 21, 22, 23, 24, 25, 26, 27, 28]
def c_graph_Norm : ACFun := { ntmps := 30, results := [(.tmp 2)], body :=
  (.seq (.region [
    ⟨some 1, (.box (.t 0)), none⟩,
    ⟨some 2, (.move (.c (.s (.slice none 0 0)))), none⟩] [] [])
  (.seq (.region [
    ⟨some 7, (.load false 1 (.t 1)), none⟩,
    ⟨some 8, (.lenS .s (.t 7)), none⟩,
    ⟨some 9, (.mkSl [(.s (.slice none 0 0))] 1 24 (.t 8) (.t 8)), none⟩,
    ⟨some 3, (.move (.t 9)), none⟩] [] [])
  (.seq (.seq (.region [
    ⟨some 10, (.load false 1 (.t 1)), none⟩,
    ⟨some 11, (.lenS .s (.t 10)), none⟩,
    ⟨some 12, (.move (.c (.s (.int .i64 0)))), none⟩] [] [])
  (.block 0
    (.loop c_graph_Norm_k0 c_graph_Norm_l0)))
  (.seq (.region [
    ⟨some 29, (.move (.t 3)), none⟩,
    ⟨some 2, (.move (.t 29)), none⟩] [] [])
  .ret)))) }
def c_scc_Comps_l0 : ACode :=
  (.seq (.region [
    ⟨some 39, (.bin .lss (.t 38) (.t 37)), none⟩] [] [])
  (.seq (.cond (.t 39)
    .skip
    (.exit 0))
  (.seq (.block 1
    (.seq (.region [
      ⟨some 40, (.move (.t 38)), none⟩,
      ⟨some 5, (.move (.t 40)), none⟩] [] [])
    (.seq (.region [
      ⟨some 41, (.move (.t 3)), none⟩,
      ⟨some 42, (.nilCheck (.t 41)), none⟩,
      ⟨some 43, (.fieldAddr 1 (.t 42)), none⟩,
      ⟨some 44, (.load false 1 (.t 43)), none⟩,
      ⟨some 45, (.move (.t 5)), none⟩,
      ⟨some 46, (.indexAddr 1 (.t 44) (.t 45)), none⟩,
      ⟨some 47, (.load false 1 (.t 46)), none⟩,
      ⟨some 48, (.bin .eql (.t 47) (.c (.s (.int .i64 0)))), none⟩] [] [])
    (.cond (.t 48)
      (.region [
        ⟨some 49, (.move (.t 3)), none⟩,
        ⟨some 50, (.move (.t 5)), none⟩,
        ⟨some 51, (.call (.c (.fn 52 [] [])) [(.t 49), (.t 50)]), none⟩] [] [])
      .skip))))
  (.region [
    ⟨some 52, (.bin .add (.t 38) (.c (.s (.int .i64 1)))), none⟩,
    ⟨some 38, (.move (.t 52)), none⟩] [] []))))
def c_scc_Comps_k0 : List Nat := [39, 40, 5, 41, 42, 43, 44, 45, 46, 47, 48, 49, 50, 51, 52]
def c_scc_Comps_l1 : ACode :=
  (.seq (.region [
    ⟨some 62, (.bin .lss (.t 61) (.t 60)), none⟩] [] [])
  (.seq (.cond (.t 62)
    .skip
    (.exit 2))
  (.seq (.block 3
    (.seq (.region [
      ⟨some 63, (.move (.t 61)), none⟩,
      ⟨some 64, (.indexAddr 1 (.t 59) (.t 61)), none⟩,
      ⟨some 65, (.load false 1 (.t 64)), none⟩,
      ⟨some 8, (.move (.t 63)), none⟩,
      ⟨some 9, (.move (.t 65)), none⟩] [] [])
    (.seq (.region [
      ⟨some 67, (.move (.t 6)), none⟩,
      ⟨some 68, (.move (.t 9)), none⟩,
      ⟨some 69, (.mapGet (.int .i64) (.s (.int .i64 0)) (.t 67) (.t 68) true), none⟩,
      ⟨some 66, (.move (.t 69)), none⟩,
      ⟨some 70, (.extract (.t 66) 0), none⟩,
      ⟨some 71, (.extract (.t 66) 1), none⟩,
      ⟨some 10, (.move (.t 70)), none⟩,
      ⟨some 11, (.move (.t 71)), none⟩] [] [])
    (.seq (.seq (.region [
      ⟨some 72, (.move (.t 11)), none⟩,
      ⟨some 73, (.un .not (.t 72)), none⟩] [] [])
    (.cond (.t 73)
      (.seq (.region [
        ⟨some 74, (.move (.t 6)), none⟩,
        ⟨some 75, (.lenS .m (.t 74)), none⟩,
        ⟨some 10, (.move (.t 75)), none⟩] [] [])
      (.region [
        ⟨some 76, (.move (.t 6)), none⟩,
        ⟨some 77, (.move (.t 9)), none⟩,
        ⟨some 78, (.move (.t 10)), none⟩,
        ⟨none, (.mapUpd (.int .i64) (.t 76) (.t 77) (.t 78)), none⟩] [] []))
      .skip))
    (.region [
      ⟨some 79, (.move (.t 7)), none⟩,
      ⟨some 80, (.move (.t 8)), none⟩,
      ⟨some 81, (.move (.t 10)), none⟩,
      ⟨some 82, (.indexAddr 1 (.t 79) (.t 80)), none⟩,
      ⟨none, (.store 1 (.t 82) (.t 81)), none⟩] [] [])))))
  (.region [
    ⟨some 83, (.bin .add (.t 61) (.c (.s (.int .i64 1)))), none⟩,
    ⟨some 61, (.move (.t 83)), none⟩] [] []))))
def c_scc_Comps_k1 : List Nat := [62, 63, 64, 65, 8, 9, 67, 68, 69, 66, 70, 71, 10, 11, 72, 73, 74, 75, 76, 77, 78, 79, 80, 81, 82, 83]
def c_scc_Comps : ACFun := { ntmps := 85, results := [(.tmp 2)], body :=
  (.seq (.region [
    ⟨some 2, (.move (.c (.s (.slice none 0 0)))), none⟩] [] [])
  (.seq (.region [
    ⟨some 12, (.move (.t 0)), none⟩,
    ⟨some 13, (.call (.c (.fn 31 [] [])) [(.t 12)]), none⟩,
    ⟨some 14, (.build [(.s (.slice none 0 0)), (.s (.slice none 0 0)), (.s (.slice none 0 0)), (.s (.slice none 0 0)), (.s (.slice none 0 0)), (.s (.int .i64 0))] [(0, 1), (1, 1), (2, 1), (3, 1), (4, 1), (5, 1)] [(0, (.t 13))]), none⟩,
    ⟨some 15, (.box (.t 14)), none⟩,
    ⟨some 3, (.move (.t 15)), none⟩] [] [])
  (.seq (.region [
    ⟨some 16, (.move (.t 3)), none⟩,
    ⟨some 17, (.nilCheck (.t 16)), none⟩,
    ⟨some 18, (.fieldAddr 0 (.t 17)), none⟩,
    ⟨some 19, (.load false 1 (.t 18)), none⟩,
    ⟨some 20, (.call (.c (.fn 50 [] [])) [(.t 19)]), none⟩,
    ⟨some 4, (.move (.t 20)), none⟩] [] [])
  (.seq (.region [
    ⟨some 21, (.move (.t 3)), none⟩,
    ⟨some 22, (.move (.t 3)), none⟩,
    ⟨some 23, (.move (.t 3)), none⟩,
    ⟨some 24, (.move (.t 4)), none⟩,
    ⟨some 25, (.mkSl [(.s (.int .i64 0))] 1 8 (.t 24) (.t 24)), none⟩,
    ⟨some 26, (.move (.t 4)), none⟩,
    ⟨some 27, (.mkSl [(.s (.int .i64 0))] 1 8 (.t 26) (.t 26)), none⟩,
    ⟨some 28, (.buildSl 1 1 [(.s (.int .i64 0))] [(0, (.c (.s (.int .i64 (-1)))))]), none⟩,
    ⟨some 29, (.move (.t 4)), none⟩,
    ⟨some 30, (.callR (.c (.fn 51 [] [])) [(.t 28), (.t 29)]), none⟩,
    ⟨some 31, (.nilCheck (.t 21)), none⟩,
    ⟨some 32, (.fieldAddr 1 (.t 31)), none⟩,
    ⟨none, (.store 1 (.t 32) (.t 25)), none⟩,
    ⟨some 33, (.nilCheck (.t 22)), none⟩,
    ⟨some 34, (.fieldAddr 2 (.t 33)), none⟩,
    ⟨none, (.store 1 (.t 34) (.t 27)), none⟩,
    ⟨some 35, (.nilCheck (.t 23)), none⟩,
    ⟨some 36, (.fieldAddr 4 (.t 35)), none⟩,
    ⟨none, (.store 1 (.t 36) (.t 30)), none⟩] [] [])
  (.seq (.seq (.region [
    ⟨some 37, (.move (.t 4)), none⟩,
    ⟨some 38, (.move (.c (.s (.int .i64 0)))), none⟩] [] [])
  (.block 0
    (.loop c_scc_Comps_k0 c_scc_Comps_l0)))
  (.seq (.region [
    ⟨some 53, .mapNew, none⟩,
    ⟨some 6, (.move (.t 53)), none⟩] [] [])
  (.seq (.region [
    ⟨some 54, (.move (.t 4)), none⟩,
    ⟨some 55, (.mkSl [(.s (.int .i64 0))] 1 8 (.t 54) (.t 54)), none⟩,
    ⟨some 7, (.move (.t 55)), none⟩] [] [])
  (.seq (.seq (.region [
    ⟨some 56, (.move (.t 3)), none⟩,
    ⟨some 57, (.nilCheck (.t 56)), none⟩,
    ⟨some 58, (.fieldAddr 4 (.t 57)), none⟩,
    ⟨some 59, (.load false 1 (.t 58)), none⟩,
    ⟨some 60, (.lenS .s (.t 59)), none⟩,
    ⟨some 61, (.move (.c (.s (.int .i64 0)))), none⟩] [] [])
  (.block 2
    (.loop c_scc_Comps_k1 c_scc_Comps_l1)))
  (.seq (.region [
    ⟨some 84, (.move (.t 7)), none⟩,
    ⟨some 2, (.move (.t 84)), none⟩] [] [])
  .ret))))))))) }
def c_scc_count_l0 : ACode :=
  (.seq (.region [
    ⟨some 9, (.bin .lss (.t 8) (.t 7)), none⟩] [] [])
  (.seq (.cond (.t 9)
    .skip
    (.exit 0))
  (.seq (.block 1
    (.seq (.region [
      ⟨some 10, (.indexAddr 1 (.t 6) (.t 8)), none⟩,
      ⟨some 11, (.load false 1 (.t 10)), none⟩,
      ⟨some 5, (.move (.t 11)), none⟩] [] [])
    (.region [
      ⟨some 12, (.move (.t 3)), none⟩,
      ⟨some 13, (.move (.t 5)), none⟩,
      ⟨some 14, (.bin .add (.t 13) (.c (.s (.int .i64 1)))), none⟩,
      ⟨some 15, (.minmax true (.t 12) (.t 14)), none⟩,
      ⟨some 3, (.move (.t 15)), none⟩] [] [])))
  (.region [
    ⟨some 16, (.bin .add (.t 8) (.c (.s (.int .i64 1)))), none⟩,
    ⟨some 8, (.move (.t 16)), none⟩] [] []))))
def c_scc_count_k0 : List Nat := [9, 10, 11, 5, 12, 13, 14, 15, 16]
def c_scc_count : ACFun := { ntmps := 18, results := [(.tmp 2)], body :=
  (.seq (.region [
    ⟨some 2, (.move (.c (.s (.int .i64 0)))), none⟩] [] [])
  (.seq (.region [
    ⟨some 3, (.move (.c (.s (.int .i64 0)))), none⟩] [] [])
  (.seq (.seq (.region [
    ⟨some 6, (.move (.t 0)), none⟩,
    ⟨some 7, (.lenS .s (.t 6)), none⟩,
    ⟨some 8, (.move (.c (.s (.int .i64 0)))), none⟩] [] [])
  (.block 0
    (.loop c_scc_count_k0 c_scc_count_l0)))
  (.seq (.region [
    ⟨some 17, (.move (.t 3)), none⟩,
    ⟨some 2, (.move (.t 17)), none⟩] [] [])
  .ret)))) }
def c_slices_Contains_int_int : ACFun := { ntmps := 9, results := [(.tmp 4)], body :=
  (.seq (.region [
    ⟨some 4, (.move (.c (.s (.bool false)))), none⟩] [] [])
  (.seq (.region [
    ⟨some 5, (.move (.t 0)), none⟩,
    ⟨some 6, (.move (.t 1)), none⟩,
    ⟨some 7, (.call (.c (.fn 53 [] [])) [(.t 5), (.t 6)]), none⟩,
    ⟨some 8, (.bin .geq (.t 7) (.c (.s (.int .i64 0)))), none⟩,
    ⟨some 4, (.move (.t 8)), none⟩] [] [])
  .ret)) }
def c_slices_IndexFunc_string_string_l0 : ACode :=
  (.seq (.region [
    ⟨some 9, (.bin .lss (.t 8) (.t 7)), none⟩] [] [])
  (.seq (.cond (.t 9)
    .skip
    (.exit 0))
  (.seq (.block 1
    (.seq (.region [
      ⟨some 10, (.move (.t 8)), none⟩,
      ⟨some 5, (.move (.t 10)), none⟩] [] [])
    (.seq (.region [
      ⟨some 11, (.move (.t 1)), none⟩,
      ⟨some 12, (.move (.t 0)), none⟩,
      ⟨some 13, (.move (.t 5)), none⟩,
      ⟨some 14, (.indexAddr 1 (.t 12) (.t 13)), none⟩,
      ⟨some 15, (.load false 1 (.t 14)), none⟩,
      ⟨some 16, (.call (.t 11) [(.t 15)]), none⟩] [] [])
    (.cond (.t 16)
      (.seq (.region [
        ⟨some 17, (.move (.t 5)), none⟩,
        ⟨some 4, (.move (.t 17)), none⟩] [] [])
      .ret)
      .skip))))
  (.region [
    ⟨some 18, (.bin .add (.t 8) (.c (.s (.int .i64 1)))), none⟩,
    ⟨some 8, (.move (.t 18)), none⟩] [] []))))
def c_slices_IndexFunc_string_string_k0 : List Nat := [9, 10, 5, 11, 12, 13, 14, 15, 16, 17, 18]
def c_slices_IndexFunc_string_string : ACFun := { ntmps := 19, results := [(.tmp 4)], body :=
  (.seq (.region [
    ⟨some 4, (.move (.c (.s (.int .i64 0)))), none⟩] [] [])
  (.seq (.seq (.region [
    ⟨some 6, (.move (.t 0)), none⟩,
    ⟨some 7, (.lenS .s (.t 6)), none⟩,
    ⟨some 8, (.move (.c (.s (.int .i64 0)))), none⟩] [] [])
  (.block 0
    (.loop c_slices_IndexFunc_string_string_k0 c_slices_IndexFunc_string_string_l0)))
  (.seq (.region [
    ⟨some 4, (.move (.c (.s (.int .i64 (-1))))), none⟩] [] [])
  .ret))) }
def c_slices_insertionSortOrdered_int_l0 : ACode :=
  (.seq (.seq (.region [
    ⟨some 16, (.move (.t 7)), none⟩,
    ⟨some 17, (.move (.t 1)), none⟩,
    ⟨some 18, (.bin .gtr (.t 16) (.t 17)), none⟩,
    ⟨some 19, (.move (.t 18)), none⟩,
    ⟨some 20, (.move (.t 0)), some (19, true)⟩,
    ⟨some 21, (.move (.t 7)), some (19, true)⟩,
    ⟨some 22, (.indexAddr 1 (.t 20) (.t 21)), some (19, true)⟩,
    ⟨some 23, (.load false 1 (.t 22)), some (19, true)⟩,
    ⟨some 24, (.move (.t 0)), some (19, true)⟩,
    ⟨some 25, (.move (.t 7)), some (19, true)⟩,
    ⟨some 26, (.bin .sub (.t 25) (.c (.s (.int .i64 1)))), some (19, true)⟩,
    ⟨some 27, (.indexAddr 1 (.t 24) (.t 26)), some (19, true)⟩,
    ⟨some 28, (.load false 1 (.t 27)), some (19, true)⟩,
    ⟨some 29, (.call (.c (.fn 42 [] [])) [(.t 23), (.t 28)]), some (19, true)⟩,
    ⟨some 30, (.pick (.t 19) (.t 29) (.c (.s (.bool false)))), none⟩] [] [])
  (.cond (.t 30)
    .skip
    (.exit 2)))
  (.seq (.block 3
    (.region [
      ⟨some 33, (.move (.t 0)), none⟩,
      ⟨some 34, (.move (.t 7)), none⟩,
      ⟨some 35, (.move (.t 0)), none⟩,
      ⟨some 36, (.move (.t 7)), none⟩,
      ⟨some 37, (.bin .sub (.t 36) (.c (.s (.int .i64 1)))), none⟩,
      ⟨some 38, (.move (.t 0)), none⟩,
      ⟨some 39, (.move (.t 7)), none⟩,
      ⟨some 40, (.bin .sub (.t 39) (.c (.s (.int .i64 1)))), none⟩,
      ⟨some 41, (.indexAddr 1 (.t 38) (.t 40)), none⟩,
      ⟨some 42, (.load false 1 (.t 41)), none⟩,
      ⟨some 43, (.move (.t 0)), none⟩,
      ⟨some 44, (.move (.t 7)), none⟩,
      ⟨some 45, (.indexAddr 1 (.t 43) (.t 44)), none⟩,
      ⟨some 46, (.load false 1 (.t 45)), none⟩,
      ⟨some 47, (.indexAddr 1 (.t 33) (.t 34)), none⟩,
      ⟨none, (.store 1 (.t 47) (.t 42)), none⟩,
      ⟨some 48, (.indexAddr 1 (.t 35) (.t 37)), none⟩,
      ⟨none, (.store 1 (.t 48) (.t 46)), none⟩] [] []))
  (.region [
    ⟨some 31, (.move (.t 7)), none⟩,
    ⟨some 32, (.bin .sub (.t 31) (.c (.s (.int .i64 1)))), none⟩,
    ⟨some 7, (.move (.t 32)), none⟩] [] [])))
def c_slices_insertionSortOrdered_int_k0 : List Nat := [16, 17, 18, 19, 20, 21, 22, 23, 24, 25, 26, 27, 28, 29, 30, 33, 34, 35, 36, 37, 38, 39, 40, 41, 42, 43, 44, 45, 46, 47, 48, 31, 32]
def c_slices_insertionSortOrdered_int_l1 : ACode :=
  (.seq (.seq (.region [
    ⟨some 10, (.move (.t 6)), none⟩,
    ⟨some 11, (.move (.t 2)), none⟩,
    ⟨some 12, (.bin .lss (.t 10) (.t 11)), none⟩] [] [])
  (.cond (.t 12)
    .skip
    (.exit 0)))
  (.seq (.block 1
    (.seq (.region [
      ⟨some 15, (.move (.t 6)), none⟩,
      ⟨some 7, (.move (.t 15)), none⟩] [] [])
    (.block 2
      (.loop c_slices_insertionSortOrdered_int_k0 c_slices_insertionSortOrdered_int_l0))))
  (.region [
    ⟨some 13, (.move (.t 6)), none⟩,
    ⟨some 14, (.bin .add (.t 13) (.c (.s (.int .i64 1)))), none⟩,
    ⟨some 6, (.move (.t 14)), none⟩] [] [])))
def c_slices_insertionSortOrdered_int_k1 : List Nat := [10, 11, 12, 15, 7, 16, 17, 18, 19, 20, 21, 22, 23, 24, 25, 26, 27, 28, 29, 30, 33, 34, 35, 36, 37, 38, 39, 40, 41, 42, 43, 44, 45, 46, 47, 48, 31, 32, 13, 14]
def c_slices_insertionSortOrdered_int : ACFun := { ntmps := 49, results := [], body :=
  (.seq (.region [
    ⟨some 8, (.move (.t 1)), none⟩,
    ⟨some 9, (.bin .add (.t 8) (.c (.s (.int .i64 1)))), none⟩,
    ⟨some 6, (.move (.t 9)), none⟩] [] [])
  (.block 0
    (.loop c_slices_insertionSortOrdered_int_k1 c_slices_insertionSortOrdered_int_l1))) }
def c_cmp_Less_int : ACFun := { ntmps := 17, results := [(.tmp 4)], body :=
  (.seq (.region [
    ⟨some 4, (.move (.c (.s (.bool false)))), none⟩] [] [])
  (.seq (.region [
    ⟨some 5, (.move (.t 0)), none⟩,
    ⟨some 6, (.call (.c (.fn 59 [] [])) [(.t 5)]), none⟩,
    ⟨some 7, (.move (.t 6)), none⟩,
    ⟨some 8, (.move (.t 1)), some (7, true)⟩,
    ⟨some 9, (.call (.c (.fn 59 [] [])) [(.t 8)]), some (7, true)⟩,
    ⟨some 10, (.un .not (.t 9)), some (7, true)⟩,
    ⟨some 11, (.pick (.t 7) (.t 10) (.c (.s (.bool false)))), none⟩,
    ⟨some 12, (.move (.t 11)), none⟩,
    ⟨some 13, (.move (.t 0)), some (12, false)⟩,
    ⟨some 14, (.move (.t 1)), some (12, false)⟩,
    ⟨some 15, (.bin .lss (.t 13) (.t 14)), some (12, false)⟩,
    ⟨some 16, (.pick (.t 12) (.c (.s (.bool true))) (.t 15)), none⟩,
    ⟨some 4, (.move (.t 16)), none⟩] [] [])
  .ret)) }
def c_math_bits_Len32 : ACFun := { ntmps := 19, results := [(.tmp 2)], body :=
  (.seq (.region [
    ⟨some 2, (.move (.c (.s (.int .i64 0)))), none⟩] [] [])
  (.seq (.seq (.region [
    ⟨some 3, (.move (.t 0)), none⟩,
    ⟨some 4, (.bin .geq (.t 3) (.c (.s (.int .u32 65536)))), none⟩] [] [])
  (.cond (.t 4)
    (.seq (.region [
      ⟨some 5, (.move (.t 0)), none⟩,
      ⟨some 6, (.bin .shr (.t 5) (.c (.s (.int .u64 16)))), none⟩,
      ⟨some 0, (.move (.t 6)), none⟩] [] [])
    (.region [
      ⟨some 2, (.move (.c (.s (.int .i64 16)))), none⟩] [] []))
    .skip))
  (.seq (.seq (.region [
    ⟨some 7, (.move (.t 0)), none⟩,
    ⟨some 8, (.bin .geq (.t 7) (.c (.s (.int .u32 256)))), none⟩] [] [])
  (.cond (.t 8)
    (.seq (.region [
      ⟨some 9, (.move (.t 0)), none⟩,
      ⟨some 10, (.bin .shr (.t 9) (.c (.s (.int .u64 8)))), none⟩,
      ⟨some 0, (.move (.t 10)), none⟩] [] [])
    (.region [
      ⟨some 11, (.move (.t 2)), none⟩,
      ⟨some 12, (.bin .add (.t 11) (.c (.s (.int .i64 8)))), none⟩,
      ⟨some 2, (.move (.t 12)), none⟩] [] []))
    .skip))
  (.seq (.region [
    ⟨some 13, (.move (.t 2)), none⟩,
    ⟨some 14, (.move (.t 0)), none⟩,
    ⟨some 15, (.conv .u8 (.t 14)), none⟩,
    ⟨some 16, (.indexStr (.c (.s (.string ⟨#[0, 1, 2, 2, 3, 3, 3, 3, 4, 4, 4, 4, 4, 4, 4, 4, 5, 5, 5, 5, 5, 5, 5, 5, 5, 5, 5, 5, 5, 5, 5, 5, 6, 6, 6, 6, 6, 6, 6, 6, 6, 6, 6, 6, 6, 6, 6, 6, 6, 6, 6, 6, 6, 6, 6, 6, 6, 6, 6, 6, 6, 6, 6, 6, 7, 7, 7, 7, 7, 7, 7, 7, 7, 7, 7, 7, 7, 7, 7, 7, 7, 7, 7, 7, 7, 7, 7, 7, 7, 7, 7, 7, 7, 7, 7, 7, 7, 7, 7, 7, 7, 7, 7, 7, 7, 7, 7, 7, 7, 7, 7, 7, 7, 7, 7, 7, 7, 7, 7, 7, 7, 7, 7, 7, 7, 7, 7, 7, 8, 8, 8, 8, 8, 8, 8, 8, 8, 8, 8, 8, 8, 8, 8, 8, 8, 8, 8, 8, 8, 8, 8, 8, 8, 8, 8, 8, 8, 8, 8, 8, 8, 8, 8, 8, 8, 8, 8, 8, 8, 8, 8, 8, 8, 8, 8, 8, 8, 8, 8, 8, 8, 8, 8, 8, 8, 8, 8, 8, 8, 8, 8, 8, 8, 8, 8, 8, 8, 8, 8, 8, 8, 8, 8, 8, 8, 8, 8, 8, 8, 8, 8, 8, 8, 8, 8, 8, 8, 8, 8, 8, 8, 8, 8, 8, 8, 8, 8, 8, 8, 8, 8, 8, 8, 8, 8, 8, 8, 8, 8, 8, 8, 8, 8, 8, 8, 8, 8, 8, 8, 8, 8, 8, 8, 8, 8, 8]⟩))) (.t 15)), none⟩,
    ⟨some 17, (.conv .i64 (.t 16)), none⟩,
    ⟨some 18, (.bin .add (.t 13) (.t 17)), none⟩,
    ⟨some 2, (.move (.t 18)), none⟩] [] [])
  .ret)))) }
def c_math_bits_Len64 : ACFun := { ntmps := 25, results := [(.tmp 2)], body :=
  (.seq (.region [
    ⟨some 2, (.move (.c (.s (.int .i64 0)))), none⟩] [] [])
  (.seq (.seq (.region [
    ⟨some 3, (.move (.t 0)), none⟩,
    ⟨some 4, (.bin .geq (.t 3) (.c (.s (.int .u64 4294967296)))), none⟩] [] [])
  (.cond (.t 4)
    (.seq (.region [
      ⟨some 5, (.move (.t 0)), none⟩,
      ⟨some 6, (.bin .shr (.t 5) (.c (.s (.int .u64 32)))), none⟩,
      ⟨some 0, (.move (.t 6)), none⟩] [] [])
    (.region [
      ⟨some 2, (.move (.c (.s (.int .i64 32)))), none⟩] [] []))
    .skip))
  (.seq (.seq (.region [
    ⟨some 7, (.move (.t 0)), none⟩,
    ⟨some 8, (.bin .geq (.t 7) (.c (.s (.int .u64 65536)))), none⟩] [] [])
  (.cond (.t 8)
    (.seq (.region [
      ⟨some 9, (.move (.t 0)), none⟩,
      ⟨some 10, (.bin .shr (.t 9) (.c (.s (.int .u64 16)))), none⟩,
      ⟨some 0, (.move (.t 10)), none⟩] [] [])
    (.region [
      ⟨some 11, (.move (.t 2)), none⟩,
      ⟨some 12, (.bin .add (.t 11) (.c (.s (.int .i64 16)))), none⟩,
      ⟨some 2, (.move (.t 12)), none⟩] [] []))
    .skip))
  (.seq (.seq (.region [
    ⟨some 13, (.move (.t 0)), none⟩,
    ⟨some 14, (.bin .geq (.t 13) (.c (.s (.int .u64 256)))), none⟩] [] [])
  (.cond (.t 14)
    (.seq (.region [
      ⟨some 15, (.move (.t 0)), none⟩,
      ⟨some 16, (.bin .shr (.t 15) (.c (.s (.int .u64 8)))), none⟩,
      ⟨some 0, (.move (.t 16)), none⟩] [] [])
    (.region [
      ⟨some 17, (.move (.t 2)), none⟩,
      ⟨some 18, (.bin .add (.t 17) (.c (.s (.int .i64 8)))), none⟩,
      ⟨some 2, (.move (.t 18)), none⟩] [] []))
    .skip))
  (.seq (.region [
    ⟨some 19, (.move (.t 2)), none⟩,
    ⟨some 20, (.move (.t 0)), none⟩,
    ⟨some 21, (.conv .u8 (.t 20)), none⟩,
    ⟨some 22, (.indexStr (.c (.s (.string ⟨#[0, 1, 2, 2, 3, 3, 3, 3, 4, 4, 4, 4, 4, 4, 4, 4, 5, 5, 5, 5, 5, 5, 5, 5, 5, 5, 5, 5, 5, 5, 5, 5, 6, 6, 6, 6, 6, 6, 6, 6, 6, 6, 6, 6, 6, 6, 6, 6, 6, 6, 6, 6, 6, 6, 6, 6, 6, 6, 6, 6, 6, 6, 6, 6, 7, 7, 7, 7, 7, 7, 7, 7, 7, 7, 7, 7, 7, 7, 7, 7, 7, 7, 7, 7, 7, 7, 7, 7, 7, 7, 7, 7, 7, 7, 7, 7, 7, 7, 7, 7, 7, 7, 7, 7, 7, 7, 7, 7, 7, 7, 7, 7, 7, 7, 7, 7, 7, 7, 7, 7, 7, 7, 7, 7, 7, 7, 7, 7, 8, 8, 8, 8, 8, 8, 8, 8, 8, 8, 8, 8, 8, 8, 8, 8, 8, 8, 8, 8, 8, 8, 8, 8, 8, 8, 8, 8, 8, 8, 8, 8, 8, 8, 8, 8, 8, 8, 8, 8, 8, 8, 8, 8, 8, 8, 8, 8, 8, 8, 8, 8, 8, 8, 8, 8, 8, 8, 8, 8, 8, 8, 8, 8, 8, 8, 8, 8, 8, 8, 8, 8, 8, 8, 8, 8, 8, 8, 8, 8, 8, 8, 8, 8, 8, 8, 8, 8, 8, 8, 8, 8, 8, 8, 8, 8, 8, 8, 8, 8, 8, 8, 8, 8, 8, 8, 8, 8, 8, 8, 8, 8, 8, 8, 8, 8, 8, 8, 8, 8, 8, 8, 8, 8, 8, 8, 8, 8]⟩))) (.t 21)), none⟩,
    ⟨some 23, (.conv .i64 (.t 22)), none⟩,
    ⟨some 24, (.bin .add (.t 19) (.t 23)), none⟩,
    ⟨some 2, (.move (.t 24)), none⟩] [] [])
  .ret))))) }
def c_slices_DeleteFunc_int_int_l0 : ACode :=
  (.seq (.seq (.region [
    ⟨some 16, (.move (.t 6)), none⟩,
    ⟨some 17, (.move (.t 0)), none⟩,
    ⟨some 18, (.lenS .s (.t 17)), none⟩,
    ⟨some 19, (.bin .lss (.t 16) (.t 18)), none⟩] [] [])
  (.cond (.t 19)
    .skip
    (.exit 0)))
  (.seq (.block 1
    (.seq (.region [
      ⟨some 22, (.move (.t 0)), none⟩,
      ⟨some 23, (.move (.t 6)), none⟩,
      ⟨some 24, (.indexAddr 1 (.t 22) (.t 23)), none⟩,
      ⟨some 25, (.load false 1 (.t 24)), none⟩,
      ⟨some 7, (.move (.t 25)), none⟩] [] [])
    (.seq (.region [
      ⟨some 26, (.move (.t 1)), none⟩,
      ⟨some 27, (.move (.t 7)), none⟩,
      ⟨some 28, (.call (.t 26) [(.t 27)]), none⟩,
      ⟨some 29, (.un .not (.t 28)), none⟩] [] [])
    (.cond (.t 29)
      (.seq (.region [
        ⟨some 30, (.move (.t 0)), none⟩,
        ⟨some 31, (.move (.t 5)), none⟩,
        ⟨some 32, (.move (.t 7)), none⟩,
        ⟨some 33, (.indexAddr 1 (.t 30) (.t 31)), none⟩,
        ⟨none, (.store 1 (.t 33) (.t 32)), none⟩] [] [])
      (.region [
        ⟨some 34, (.move (.t 5)), none⟩,
        ⟨some 35, (.bin .add (.t 34) (.c (.s (.int .i64 1)))), none⟩,
        ⟨some 5, (.move (.t 35)), none⟩] [] []))
      .skip))))
  (.region [
    ⟨some 20, (.move (.t 6)), none⟩,
    ⟨some 21, (.bin .add (.t 20) (.c (.s (.int .i64 1)))), none⟩,
    ⟨some 6, (.move (.t 21)), none⟩] [] [])))
def c_slices_DeleteFunc_int_int_k0 : List Nat := [16, 17, 18, 19, 22, 23, 24, 25, 7, 26, 27, 28, 29, 30, 31, 32, 33, 34, 35, 20, 21]
def c_slices_DeleteFunc_int_int : ACFun := { ntmps := 42, results := [(.tmp 4)], body :=
  (.seq (.region [
    ⟨some 4, (.move (.c (.s (.slice none 0 0)))), none⟩] [] [])
  (.seq (.region [
    ⟨some 8, (.move (.t 0)), none⟩,
    ⟨some 9, (.move (.t 1)), none⟩,
    ⟨some 10, (.call (.c (.fn 60 [] [])) [(.t 8), (.t 9)]), none⟩,
    ⟨some 5, (.move (.t 10)), none⟩] [] [])
  (.seq (.seq (.region [
    ⟨some 11, (.move (.t 5)), none⟩,
    ⟨some 12, (.bin .eql (.t 11) (.c (.s (.int .i64 (-1))))), none⟩] [] [])
  (.cond (.t 12)
    (.seq (.region [
      ⟨some 13, (.move (.t 0)), none⟩,
      ⟨some 4, (.move (.t 13)), none⟩] [] [])
    .ret)
    .skip))
  (.seq (.seq (.region [
    ⟨some 14, (.move (.t 5)), none⟩,
    ⟨some 15, (.bin .add (.t 14) (.c (.s (.int .i64 1)))), none⟩,
    ⟨some 6, (.move (.t 15)), none⟩] [] [])
  (.block 0
    (.loop c_slices_DeleteFunc_int_int_k0 c_slices_DeleteFunc_int_int_l0)))
  (.seq (.region [
    ⟨some 36, (.move (.t 0)), none⟩,
    ⟨some 37, (.move (.t 5)), none⟩,
    ⟨some 38, (.subSl 1 (.t 36) (some (.t 37)) none none), none⟩,
    ⟨none, (.clearSl 1 [(.s (.int .i64 0))] (.t 38)), none⟩] [] [])
  (.seq (.region [
    ⟨some 39, (.move (.t 0)), none⟩,
    ⟨some 40, (.move (.t 5)), none⟩,
    ⟨some 41, (.subSl 1 (.t 39) none (some (.t 40)) none), none⟩,
    ⟨some 4, (.move (.t 41)), none⟩] [] [])
  .ret)))))) }
def c_slices_Clone_int_int : ACFun := { ntmps := 8, results := [(.tmp 2)], body :=
  (.seq (.region [
    ⟨some 2, (.move (.c (.s (.slice none 0 0)))), none⟩] [] [])
  (.seq (.seq (.region [
    ⟨some 3, (.move (.t 0)), none⟩,
    ⟨some 4, (.eqNil .s false (.t 3)), none⟩] [] [])
  (.cond (.t 4)
    (.seq (.region [
      ⟨some 2, (.move (.c (.s (.slice none 0 0)))), none⟩] [] [])
    .ret)
    .skip))
  (.seq (.region [
    ⟨some 5, (.buildSl 1 0 [] []), none⟩,
    ⟨some 6, (.move (.t 0)), none⟩,
    ⟨some 7, (.append 1 8 (.t 5) (.t 6)), none⟩,
    ⟨some 2, (.move (.t 7)), none⟩] [] [])
  .ret))) }
def c_graph_Norm_1 : ACFun := { ntmps := 12, results := [(.tmp 3)], body :=
  (.seq (.region [
    ⟨some 3, (.move (.c (.s (.bool false)))), none⟩] [] [])
  (.seq (.region [
    ⟨some 4, (.move (.t 0)), none⟩,
    ⟨some 5, (.bin .lss (.t 4) (.c (.s (.int .i64 0)))), none⟩,
    ⟨some 6, (.move (.t 5)), none⟩,
    ⟨some 7, (.move (.t 0)), some (6, false)⟩,
    ⟨some 8, (.load false 1 (.t 1)), some (6, false)⟩,
    ⟨some 9, (.lenS .s (.t 8)), some (6, false)⟩,
    ⟨some 10, (.bin .geq (.t 7) (.t 9)), some (6, false)⟩,
    ⟨some 11, (.pick (.t 6) (.c (.s (.bool true))) (.t 10)), none⟩,
    ⟨some 3, (.move (.t 11)), none⟩] [] [])
  .ret)) }
def c_scc_rows_nodes : ACFun := { ntmps := 5, results := [(.tmp 2)], body :=
  (.seq (.region [
    ⟨some 2, (.move (.c (.s (.int .i64 0)))), none⟩] [] [])
  (.seq (.region [
    ⟨some 3, (.move (.t 0)), none⟩,
    ⟨some 4, (.lenS .s (.t 3)), none⟩,
    ⟨some 2, (.move (.t 4)), none⟩] [] [])
  .ret)) }
def c_slices_Repeat_int_int_l0 : ACode :=
  (.seq (.seq (.region [
    ⟨some 34, (.move (.t 8)), none⟩,
    ⟨some 35, (.move (.t 7)), none⟩,
    ⟨some 36, (.lenS .s (.t 35)), none⟩,
    ⟨some 37, (.bin .lss (.t 34) (.t 36)), none⟩] [] [])
  (.cond (.t 37)
    .skip
    (.exit 0)))
  (.block 1
    (.region [
      ⟨some 38, (.move (.t 8)), none⟩,
      ⟨some 39, (.move (.t 7)), none⟩,
      ⟨some 40, (.move (.t 8)), none⟩,
      ⟨some 41, (.subSl 1 (.t 39) (some (.t 40)) none none), none⟩,
      ⟨some 42, (.move (.t 7)), none⟩,
      ⟨some 43, (.move (.t 8)), none⟩,
      ⟨some 44, (.subSl 1 (.t 42) none (some (.t 43)) none), none⟩,
      ⟨some 45, (.copy 1 (.t 41) (.t 44)), none⟩,
      ⟨some 46, (.bin .add (.t 38) (.t 45)), none⟩,
      ⟨some 8, (.move (.t 46)), none⟩] [] [])))
def c_slices_Repeat_int_int_k0 : List Nat := [34, 35, 36, 37, 38, 39, 40, 41, 42, 43, 44, 45, 46]
def c_slices_Repeat_int_int : ACFun := { ntmps := 48, results := [(.tmp 4)], body :=
  (.seq (.region [
    ⟨some 4, (.move (.c (.s (.slice none 0 0)))), none⟩] [] [])
  (.seq (.seq (.region [
    ⟨some 9, (.move (.t 1)), none⟩,
    ⟨some 10, (.bin .lss (.t 9) (.c (.s (.int .i64 0)))), none⟩] [] [])
  (.cond (.t 10)
    (.region [
      ⟨some 11, .stuck, none⟩,
      ⟨none, .stuck, none⟩] [] [])
    .skip))
  (.seq (.region [
    ⟨some 13, (.move (.t 0)), none⟩,
    ⟨some 14, (.lenS .s (.t 13)), none⟩,
    ⟨some 15, (.conv .u64 (.t 14)), none⟩,
    ⟨some 16, (.move (.t 1)), none⟩,
    ⟨some 17, (.conv .u64 (.t 16)), none⟩,
    ⟨some 18, (.call (.c (.fn 61 [] [])) [(.t 15), (.t 17)]), none⟩,
    ⟨some 12, (.move (.t 18)), none⟩,
    ⟨some 19, (.extract (.t 12) 0), none⟩,
    ⟨some 20, (.extract (.t 12) 1), none⟩,
    ⟨some 5, (.move (.t 19)), none⟩,
    ⟨some 6, (.move (.t 20)), none⟩] [] [])
  (.seq (.seq (.region [
    ⟨some 21, (.move (.t 5)), none⟩,
    ⟨some 22, (.bin .gtr (.t 21) (.c (.s (.int .u64 0)))), none⟩,
    ⟨some 23, (.move (.t 22)), none⟩,
    ⟨some 24, (.move (.t 6)), some (23, false)⟩,
    ⟨some 25, (.bin .gtr (.t 24) (.c (.s (.int .u64 9223372036854775807)))), some (23, false)⟩,
    ⟨some 26, (.pick (.t 23) (.c (.s (.bool true))) (.t 25)), none⟩] [] [])
  (.cond (.t 26)
    (.region [
      ⟨some 27, .stuck, none⟩,
      ⟨none, .stuck, none⟩] [] [])
    .skip))
  (.seq (.region [
    ⟨some 28, (.move (.t 6)), none⟩,
    ⟨some 29, (.conv .i64 (.t 28)), none⟩,
    ⟨some 30, (.mkSl [(.s (.int .i64 0))] 1 8 (.t 29) (.t 29)), none⟩,
    ⟨some 7, (.move (.t 30)), none⟩] [] [])
  (.seq (.region [
    ⟨some 31, (.move (.t 7)), none⟩,
    ⟨some 32, (.move (.t 0)), none⟩,
    ⟨some 33, (.copy 1 (.t 31) (.t 32)), none⟩,
    ⟨some 8, (.move (.t 33)), none⟩] [] [])
  (.seq (.block 0
    (.loop c_slices_Repeat_int_int_k0 c_slices_Repeat_int_int_l0))
  (.seq (.region [
    ⟨some 47, (.move (.t 7)), none⟩,
    ⟨some 4, (.move (.t 47)), none⟩] [] [])
  .ret)))))))) }
def c_scc_walk_enter_l0 : ACode :=
  (.seq (.region [
    ⟨some 168, (.bin .lss (.t 167) (.t 166)), none⟩] [] [])
  (.seq (.cond (.t 168)
    .skip
    (.exit 2))
  (.seq (.block 3
    (.seq (.region [
      ⟨some 169, (.indexAddr 1 (.t 165) (.t 167)), none⟩,
      ⟨some 170, (.load false 1 (.t 169)), none⟩,
      ⟨some 12, (.move (.t 170)), none⟩] [] [])
    (.region [
      ⟨some 171, (.load false 1 (.t 2)), none⟩,
      ⟨some 172, (.nilCheck (.t 171)), none⟩,
      ⟨some 173, (.fieldAddr 4 (.t 172)), none⟩,
      ⟨some 174, (.load false 1 (.t 173)), none⟩,
      ⟨some 175, (.move (.t 12)), none⟩,
      ⟨some 176, (.move (.t 7)), none⟩,
      ⟨some 177, (.indexAddr 1 (.t 174) (.t 175)), none⟩,
      ⟨none, (.store 1 (.t 177) (.t 176)), none⟩] [] [])))
  (.region [
    ⟨some 178, (.bin .add (.t 167) (.c (.s (.int .i64 1)))), none⟩,
    ⟨some 167, (.move (.t 178)), none⟩] [] []))))
def c_scc_walk_enter_k0 : List Nat := [168, 169, 170, 12, 171, 172, 173, 174, 175, 176, 177, 178]
def c_scc_walk_enter_l1 : ACode :=
  (.seq (.seq (.region [
    ⟨some 18, (.load false 1 (.t 4)), none⟩,
    ⟨some 19, (.lenS .s (.t 18)), none⟩,
    ⟨some 20, (.bin .gtr (.t 19) (.c (.s (.int .i64 0)))), none⟩] [] [])
  (.cond (.t 20)
    .skip
    (.exit 0)))
  (.block 1
    (.seq (.region [
      ⟨some 21, (.load false 1 (.t 4)), none⟩,
      ⟨some 22, (.load false 1 (.t 4)), none⟩,
      ⟨some 23, (.lenS .s (.t 22)), none⟩,
      ⟨some 24, (.bin .sub (.t 23) (.c (.s (.int .i64 1)))), none⟩,
      ⟨some 25, (.indexAddr 2 (.t 21) (.t 24)), none⟩,
      ⟨some 6, (.move (.t 25)), none⟩] [] [])
    (.seq (.region [
      ⟨some 26, (.move (.t 6)), none⟩,
      ⟨some 27, (.nilCheck (.t 26)), none⟩,
      ⟨some 28, (.fieldAddr 0 (.t 27)), none⟩,
      ⟨some 29, (.load false 1 (.t 28)), none⟩,
      ⟨some 7, (.move (.t 29)), none⟩] [] [])
    (.seq (.seq (.region [
      ⟨some 30, (.move (.t 6)), none⟩,
      ⟨some 31, (.nilCheck (.t 30)), none⟩,
      ⟨some 32, (.fieldAddr 1 (.t 31)), none⟩,
      ⟨some 33, (.load false 1 (.t 32)), none⟩,
      ⟨some 34, (.load false 1 (.t 2)), none⟩,
      ⟨some 35, (.nilCheck (.t 34)), none⟩,
      ⟨some 36, (.fieldAddr 0 (.t 35)), none⟩,
      ⟨some 37, (.load false 1 (.t 36)), none⟩,
      ⟨some 38, (.move (.t 7)), none⟩,
      ⟨some 39, (.indexAddr 1 (.t 37) (.t 38)), none⟩,
      ⟨some 40, (.load false 1 (.t 39)), none⟩,
      ⟨some 41, (.lenS .s (.t 40)), none⟩,
      ⟨some 42, (.bin .lss (.t 33) (.t 41)), none⟩] [] [])
    (.cond (.t 42)
      (.seq (.region [
        ⟨some 43, (.load false 1 (.t 2)), none⟩,
        ⟨some 44, (.nilCheck (.t 43)), none⟩,
        ⟨some 45, (.fieldAddr 0 (.t 44)), none⟩,
        ⟨some 46, (.load false 1 (.t 45)), none⟩,
        ⟨some 47, (.move (.t 7)), none⟩,
        ⟨some 48, (.indexAddr 1 (.t 46) (.t 47)), none⟩,
        ⟨some 49, (.load false 1 (.t 48)), none⟩,
        ⟨some 50, (.move (.t 6)), none⟩,
        ⟨some 51, (.nilCheck (.t 50)), none⟩,
        ⟨some 52, (.fieldAddr 1 (.t 51)), none⟩,
        ⟨some 53, (.load false 1 (.t 52)), none⟩,
        ⟨some 54, (.indexAddr 1 (.t 49) (.t 53)), none⟩,
        ⟨some 55, (.load false 1 (.t 54)), none⟩,
        ⟨some 8, (.move (.t 55)), none⟩] [] [])
      (.seq (.region [
        ⟨some 56, (.move (.t 6)), none⟩,
        ⟨some 57, (.nilCheck (.t 56)), none⟩,
        ⟨some 58, (.fieldAddr 1 (.t 57)), none⟩,
        ⟨some 59, (.load false 1 (.t 58)), none⟩,
        ⟨some 60, (.bin .add (.t 59) (.c (.s (.int .i64 1)))), none⟩,
        ⟨some 61, (.nilCheck (.t 56)), none⟩,
        ⟨some 62, (.fieldAddr 1 (.t 61)), none⟩,
        ⟨none, (.store 1 (.t 62) (.t 60)), none⟩] [] [])
      (.seq (.seq (.region [
        ⟨some 63, (.load false 1 (.t 2)), none⟩,
        ⟨some 64, (.nilCheck (.t 63)), none⟩,
        ⟨some 65, (.fieldAddr 1 (.t 64)), none⟩,
        ⟨some 66, (.load false 1 (.t 65)), none⟩,
        ⟨some 67, (.move (.t 8)), none⟩,
        ⟨some 68, (.indexAddr 1 (.t 66) (.t 67)), none⟩,
        ⟨some 69, (.load false 1 (.t 68)), none⟩,
        ⟨some 70, (.bin .eql (.t 69) (.c (.s (.int .i64 0)))), none⟩] [] [])
      (.cond (.t 70)
        (.region [
          ⟨some 71, (.move (.t 5)), none⟩,
          ⟨some 72, (.move (.t 8)), none⟩,
          ⟨some 73, (.call (.t 71) [(.t 72)]), none⟩] [] [])
        (.seq (.region [
          ⟨some 74, (.load false 1 (.t 2)), none⟩,
          ⟨some 75, (.nilCheck (.t 74)), none⟩,
          ⟨some 76, (.fieldAddr 4 (.t 75)), none⟩,
          ⟨some 77, (.load false 1 (.t 76)), none⟩,
          ⟨some 78, (.move (.t 8)), none⟩,
          ⟨some 79, (.indexAddr 1 (.t 77) (.t 78)), none⟩,
          ⟨some 80, (.load false 1 (.t 79)), none⟩,
          ⟨some 81, (.bin .lss (.t 80) (.c (.s (.int .i64 0)))), none⟩] [] [])
        (.cond (.t 81)
          (.region [
            ⟨some 82, (.load false 1 (.t 2)), none⟩,
            ⟨some 83, (.nilCheck (.t 82)), none⟩,
            ⟨some 84, (.fieldAddr 2 (.t 83)), none⟩,
            ⟨some 85, (.load false 1 (.t 84)), none⟩,
            ⟨some 86, (.move (.t 7)), none⟩,
            ⟨some 87, (.load false 1 (.t 2)), none⟩,
            ⟨some 88, (.nilCheck (.t 87)), none⟩,
            ⟨some 89, (.fieldAddr 2 (.t 88)), none⟩,
            ⟨some 90, (.load false 1 (.t 89)), none⟩,
            ⟨some 91, (.move (.t 7)), none⟩,
            ⟨some 92, (.indexAddr 1 (.t 90) (.t 91)), none⟩,
            ⟨some 93, (.load false 1 (.t 92)), none⟩,
            ⟨some 94, (.load false 1 (.t 2)), none⟩,
            ⟨some 95, (.nilCheck (.t 94)), none⟩,
            ⟨some 96, (.fieldAddr 1 (.t 95)), none⟩,
            ⟨some 97, (.load false 1 (.t 96)), none⟩,
            ⟨some 98, (.move (.t 8)), none⟩,
            ⟨some 99, (.indexAddr 1 (.t 97) (.t 98)), none⟩,
            ⟨some 100, (.load false 1 (.t 99)), none⟩,
            ⟨some 101, (.minmax false (.t 93) (.t 100)), none⟩,
            ⟨some 102, (.indexAddr 1 (.t 85) (.t 86)), none⟩,
            ⟨none, (.store 1 (.t 102) (.t 101)), none⟩] [] [])
          .skip))))
      (.exit 1))))
      .skip))
    (.seq (.region [
      ⟨some 103, (.load false 1 (.t 4)), none⟩,
      ⟨some 104, (.load false 1 (.t 4)), none⟩,
      ⟨some 105, (.lenS .s (.t 104)), none⟩,
      ⟨some 106, (.bin .sub (.t 105) (.c (.s (.int .i64 1)))), none⟩,
      ⟨some 107, (.subSl 2 (.t 103) none (some (.t 106)) none), none⟩,
      ⟨none, (.store 1 (.t 4) (.t 107)), none⟩] [] [])
    (.seq (.seq (.region [
      ⟨some 108, (.load false 1 (.t 4)), none⟩,
      ⟨some 109, (.lenS .s (.t 108)), none⟩,
      ⟨some 110, (.bin .gtr (.t 109) (.c (.s (.int .i64 0)))), none⟩] [] [])
    (.cond (.t 110)
      (.seq (.region [
        ⟨some 111, (.load false 1 (.t 4)), none⟩,
        ⟨some 112, (.load false 1 (.t 4)), none⟩,
        ⟨some 113, (.lenS .s (.t 112)), none⟩,
        ⟨some 114, (.bin .sub (.t 113) (.c (.s (.int .i64 1)))), none⟩,
        ⟨some 115, (.indexAddr 2 (.t 111) (.t 114)), none⟩,
        ⟨some 116, (.fieldAddr 0 (.t 115)), none⟩,
        ⟨some 117, (.load false 1 (.t 116)), none⟩,
        ⟨some 9, (.move (.t 117)), none⟩] [] [])
      (.region [
        ⟨some 118, (.load false 1 (.t 2)), none⟩,
        ⟨some 119, (.nilCheck (.t 118)), none⟩,
        ⟨some 120, (.fieldAddr 2 (.t 119)), none⟩,
        ⟨some 121, (.load false 1 (.t 120)), none⟩,
        ⟨some 122, (.move (.t 9)), none⟩,
        ⟨some 123, (.load false 1 (.t 2)), none⟩,
        ⟨some 124, (.nilCheck (.t 123)), none⟩,
        ⟨some 125, (.fieldAddr 2 (.t 124)), none⟩,
        ⟨some 126, (.load false 1 (.t 125)), none⟩,
        ⟨some 127, (.move (.t 9)), none⟩,
        ⟨some 128, (.indexAddr 1 (.t 126) (.t 127)), none⟩,
        ⟨some 129, (.load false 1 (.t 128)), none⟩,
        ⟨some 130, (.load false 1 (.t 2)), none⟩,
        ⟨some 131, (.nilCheck (.t 130)), none⟩,
        ⟨some 132, (.fieldAddr 2 (.t 131)), none⟩,
        ⟨some 133, (.load false 1 (.t 132)), none⟩,
        ⟨some 134, (.move (.t 7)), none⟩,
        ⟨some 135, (.indexAddr 1 (.t 133) (.t 134)), none⟩,
        ⟨some 136, (.load false 1 (.t 135)), none⟩,
        ⟨some 137, (.minmax false (.t 129) (.t 136)), none⟩,
        ⟨some 138, (.indexAddr 1 (.t 121) (.t 122)), none⟩,
        ⟨none, (.store 1 (.t 138) (.t 137)), none⟩] [] []))
      .skip))
    (.seq (.region [
      ⟨some 139, (.load false 1 (.t 2)), none⟩,
      ⟨some 140, (.nilCheck (.t 139)), none⟩,
      ⟨some 141, (.fieldAddr 2 (.t 140)), none⟩,
      ⟨some 142, (.load false 1 (.t 141)), none⟩,
      ⟨some 143, (.move (.t 7)), none⟩,
      ⟨some 144, (.indexAddr 1 (.t 142) (.t 143)), none⟩,
      ⟨some 145, (.load false 1 (.t 144)), none⟩,
      ⟨some 146, (.load false 1 (.t 2)), none⟩,
      ⟨some 147, (.nilCheck (.t 146)), none⟩,
      ⟨some 148, (.fieldAddr 1 (.t 147)), none⟩,
      ⟨some 149, (.load false 1 (.t 148)), none⟩,
      ⟨some 150, (.move (.t 7)), none⟩,
      ⟨some 151, (.indexAddr 1 (.t 149) (.t 150)), none⟩,
      ⟨some 152, (.load false 1 (.t 151)), none⟩,
      ⟨some 153, (.bin .eql (.t 145) (.t 152)), none⟩] [] [])
    (.cond (.t 153)
      (.seq (.region [
        ⟨some 154, (.load false 1 (.t 2)), none⟩,
        ⟨some 155, (.nilCheck (.t 154)), none⟩,
        ⟨some 156, (.fieldAddr 3 (.t 155)), none⟩,
        ⟨some 157, (.load false 1 (.t 156)), none⟩,
        ⟨some 158, (.move (.t 7)), none⟩,
        ⟨some 159, (.call (.c (.fn 53 [] [])) [(.t 157), (.t 158)]), none⟩,
        ⟨some 10, (.move (.t 159)), none⟩] [] [])
      (.seq (.seq (.region [
        ⟨some 160, (.load false 1 (.t 2)), none⟩,
        ⟨some 161, (.nilCheck (.t 160)), none⟩,
        ⟨some 162, (.fieldAddr 3 (.t 161)), none⟩,
        ⟨some 163, (.load false 1 (.t 162)), none⟩,
        ⟨some 164, (.move (.t 10)), none⟩,
        ⟨some 165, (.subSl 1 (.t 163) (some (.t 164)) none none), none⟩,
        ⟨some 166, (.lenS .s (.t 165)), none⟩,
        ⟨some 167, (.move (.c (.s (.int .i64 0)))), none⟩] [] [])
      (.block 2
        (.loop c_scc_walk_enter_k0 c_scc_walk_enter_l0)))
      (.region [
        ⟨some 179, (.load false 1 (.t 2)), none⟩,
        ⟨some 180, (.load false 1 (.t 2)), none⟩,
        ⟨some 181, (.nilCheck (.t 180)), none⟩,
        ⟨some 182, (.fieldAddr 3 (.t 181)), none⟩,
        ⟨some 183, (.load false 1 (.t 182)), none⟩,
        ⟨some 184, (.move (.t 10)), none⟩,
        ⟨some 185, (.subSl 1 (.t 183) none (some (.t 184)) none), none⟩,
        ⟨some 186, (.nilCheck (.t 179)), none⟩,
        ⟨some 187, (.fieldAddr 3 (.t 186)), none⟩,
        ⟨none, (.store 1 (.t 187) (.t 185)), none⟩] [] [])))
      .skip)))))))))
def c_scc_walk_enter_k1 : List Nat := [18, 19, 20, 21, 22, 23, 24, 25, 6, 26, 27, 28, 29, 7, 30, 31, 32, 33, 34, 35, 36, 37, 38, 39, 40, 41, 42, 43, 44, 45, 46, 47, 48, 49, 50, 51, 52, 53, 54, 55, 8, 56, 57, 58, 59, 60, 61, 62, 63, 64, 65, 66, 67, 68, 69, 70, 71, 72, 73, 74, 75, 76, 77, 78, 79, 80, 81, 82, 83, 84, 85, 86, 87, 88, 89, 90, 91, 92, 93, 94, 95, 96, 97, 98, 99, 100, 101, 102, 103, 104, 105, 106, 107, 108, 109, 110, 111, 112, 113, 114, 115, 116, 117, 9, 118, 119, 120, 121, 122, 123, 124, 125, 126, 127, 128, 129, 130, 131, 132, 133, 134, 135, 136, 137, 138, 139, 140, 141, 142, 143, 144, 145, 146, 147, 148, 149, 150, 151, 152, 153, 154, 155, 156, 157, 158, 159, 10, 160, 161, 162, 163, 164, 165, 166, 167, 168, 169, 170, 12, 171, 172, 173, 174, 175, 176, 177, 178, 179, 180, 181, 182, 183, 184, 185, 186, 187]
def c_scc_walk_enter : ACFun := { ntmps := 188, results := [], body :=
  (.seq (.region [
    ⟨some 2, (.box (.t 0)), none⟩] [] [])
  (.seq (.region [
    ⟨some 13, (.buildSl 2 0 [] []), none⟩,
    ⟨some 4, (.alloc [(.s (.slice none 0 0))]), none⟩,
    ⟨none, (.store 1 (.t 4) (.t 13)), none⟩] [] [])
  (.seq (.region [
    ⟨some 14, (.mkFn 62 [] [(.t 2), (.t 4)]), none⟩,
    ⟨some 5, (.move (.t 14)), none⟩] [] [])
  (.seq (.region [
    ⟨some 15, (.move (.t 5)), none⟩,
    ⟨some 16, (.move (.t 1)), none⟩,
    ⟨some 17, (.call (.t 15) [(.t 16)]), none⟩] [] [])
  (.block 0
    (.loop c_scc_walk_enter_k1 c_scc_walk_enter_l1)))))) }
def c_slices_Index_int_int_l0 : ACode :=
  (.seq (.region [
    ⟨some 9, (.bin .lss (.t 8) (.t 7)), none⟩] [] [])
  (.seq (.cond (.t 9)
    .skip
    (.exit 0))
  (.seq (.block 1
    (.seq (.region [
      ⟨some 10, (.move (.t 8)), none⟩,
      ⟨some 5, (.move (.t 10)), none⟩] [] [])
    (.seq (.region [
      ⟨some 11, (.move (.t 1)), none⟩,
      ⟨some 12, (.move (.t 0)), none⟩,
      ⟨some 13, (.move (.t 5)), none⟩,
      ⟨some 14, (.indexAddr 1 (.t 12) (.t 13)), none⟩,
      ⟨some 15, (.load false 1 (.t 14)), none⟩,
      ⟨some 16, (.bin .eql (.t 11) (.t 15)), none⟩] [] [])
    (.cond (.t 16)
      (.seq (.region [
        ⟨some 17, (.move (.t 5)), none⟩,
        ⟨some 4, (.move (.t 17)), none⟩] [] [])
      .ret)
      .skip))))
  (.region [
    ⟨some 18, (.bin .add (.t 8) (.c (.s (.int .i64 1)))), none⟩,
    ⟨some 8, (.move (.t 18)), none⟩] [] []))))
def c_slices_Index_int_int_k0 : List Nat := [9, 10, 5, 11, 12, 13, 14, 15, 16, 17, 18]
def c_slices_Index_int_int : ACFun := { ntmps := 19, results := [(.tmp 4)], body :=
  (.seq (.region [
    ⟨some 4, (.move (.c (.s (.int .i64 0)))), none⟩] [] [])
  (.seq (.seq (.region [
    ⟨some 6, (.move (.t 0)), none⟩,
    ⟨some 7, (.lenS .s (.t 6)), none⟩,
    ⟨some 8, (.move (.c (.s (.int .i64 0)))), none⟩] [] [])
  (.block 0
    (.loop c_slices_Index_int_int_k0 c_slices_Index_int_int_l0)))
  (.seq (.region [
    ⟨some 4, (.move (.c (.s (.int .i64 (-1))))), none⟩] [] [])
  .ret))) }
def c_cmp_isNaN_int : ACFun := { ntmps := 6, results := [(.tmp 2)], body :=
  (.seq (.region [
    ⟨some 2, (.move (.c (.s (.bool false)))), none⟩] [] [])
  (.seq (.region [
    ⟨some 3, (.move (.t 0)), none⟩,
    ⟨some 4, (.move (.t 0)), none⟩,
    ⟨some 5, (.bin .neq (.t 3) (.t 4)), none⟩,
    ⟨some 2, (.move (.t 5)), none⟩] [] [])
  .ret)) }
def c_slices_IndexFunc_int_int_l0 : ACode :=
  (.seq (.region [
    ⟨some 9, (.bin .lss (.t 8) (.t 7)), none⟩] [] [])
  (.seq (.cond (.t 9)
    .skip
    (.exit 0))
  (.seq (.block 1
    (.seq (.region [
      ⟨some 10, (.move (.t 8)), none⟩,
      ⟨some 5, (.move (.t 10)), none⟩] [] [])
    (.seq (.region [
      ⟨some 11, (.move (.t 1)), none⟩,
      ⟨some 12, (.move (.t 0)), none⟩,
      ⟨some 13, (.move (.t 5)), none⟩,
      ⟨some 14, (.indexAddr 1 (.t 12) (.t 13)), none⟩,
      ⟨some 15, (.load false 1 (.t 14)), none⟩,
      ⟨some 16, (.call (.t 11) [(.t 15)]), none⟩] [] [])
    (.cond (.t 16)
      (.seq (.region [
        ⟨some 17, (.move (.t 5)), none⟩,
        ⟨some 4, (.move (.t 17)), none⟩] [] [])
      .ret)
      .skip))))
  (.region [
    ⟨some 18, (.bin .add (.t 8) (.c (.s (.int .i64 1)))), none⟩,
    ⟨some 8, (.move (.t 18)), none⟩] [] []))))
def c_slices_IndexFunc_int_int_k0 : List Nat := [9, 10, 5, 11, 12, 13, 14, 15, 16, 17, 18]
def c_slices_IndexFunc_int_int : ACFun := { ntmps := 19, results := [(.tmp 4)], body :=
  (.seq (.region [
    ⟨some 4, (.move (.c (.s (.int .i64 0)))), none⟩] [] [])
  (.seq (.seq (.region [
    ⟨some 6, (.move (.t 0)), none⟩,
    ⟨some 7, (.lenS .s (.t 6)), none⟩,
    ⟨some 8, (.move (.c (.s (.int .i64 0)))), none⟩] [] [])
  (.block 0
    (.loop c_slices_IndexFunc_int_int_k0 c_slices_IndexFunc_int_int_l0)))
  (.seq (.region [
    ⟨some 4, (.move (.c (.s (.int .i64 (-1))))), none⟩] [] [])
  .ret))) }
def c_math_bits_Mul : ACFun := { ntmps := 30, results := [(.tmp 4), (.tmp 5)], body :=
  (.seq (.region [
    ⟨some 4, (.move (.c (.s (.int .u64 0)))), none⟩,
    ⟨some 5, (.move (.c (.s (.int .u64 0)))), none⟩] [] [])
  (.seq (.cond (.c (.s (.bool false)))
    (.seq (.region [
      ⟨some 11, (.move (.t 0)), none⟩,
      ⟨some 12, (.conv .u32 (.t 11)), none⟩,
      ⟨some 13, (.move (.t 1)), none⟩,
      ⟨some 14, (.conv .u32 (.t 13)), none⟩,
      ⟨some 15, (.call (.c (.fn 64 [] [])) [(.t 12), (.t 14)]), none⟩,
      ⟨some 10, (.move (.t 15)), none⟩,
      ⟨some 16, (.extract (.t 10) 0), none⟩,
      ⟨some 17, (.extract (.t 10) 1), none⟩,
      ⟨some 6, (.move (.t 16)), none⟩,
      ⟨some 7, (.move (.t 17)), none⟩] [] [])
    (.seq (.region [
      ⟨some 18, (.move (.t 6)), none⟩,
      ⟨some 19, (.conv .u64 (.t 18)), none⟩,
      ⟨some 20, (.move (.t 7)), none⟩,
      ⟨some 21, (.conv .u64 (.t 20)), none⟩,
      ⟨some 4, (.move (.t 19)), none⟩,
      ⟨some 5, (.move (.t 21)), none⟩] [] [])
    .ret))
    .skip)
  (.seq (.region [
    ⟨some 23, (.move (.t 0)), none⟩,
    ⟨some 24, (.move (.t 1)), none⟩,
    ⟨some 25, (.call (.c (.fn 65 [] [])) [(.t 23), (.t 24)]), none⟩,
    ⟨some 22, (.move (.t 25)), none⟩,
    ⟨some 26, (.extract (.t 22) 0), none⟩,
    ⟨some 27, (.extract (.t 22) 1), none⟩,
    ⟨some 8, (.move (.t 26)), none⟩,
    ⟨some 9, (.move (.t 27)), none⟩] [] [])
  (.seq (.region [
    ⟨some 28, (.move (.t 8)), none⟩,
    ⟨some 29, (.move (.t 9)), none⟩,
    ⟨some 4, (.move (.t 28)), none⟩,
    ⟨some 5, (.move (.t 29)), none⟩] [] [])
  .ret)))) }
def c_scc_walk_enter_1 : ACFun := { ntmps := 46, results := [], body :=
  (.seq (.region [
    ⟨some 4, (.load false 1 (.t 1)), none⟩,
    ⟨some 5, (.nilCheck (.t 4)), none⟩,
    ⟨some 6, (.fieldAddr 5 (.t 5)), none⟩,
    ⟨some 7, (.load false 1 (.t 6)), none⟩,
    ⟨some 8, (.bin .add (.t 7) (.c (.s (.int .i64 1)))), none⟩,
    ⟨some 9, (.nilCheck (.t 4)), none⟩,
    ⟨some 10, (.fieldAddr 5 (.t 9)), none⟩,
    ⟨none, (.store 1 (.t 10) (.t 8)), none⟩] [] [])
  (.seq (.region [
    ⟨some 11, (.load false 1 (.t 1)), none⟩,
    ⟨some 12, (.nilCheck (.t 11)), none⟩,
    ⟨some 13, (.fieldAddr 1 (.t 12)), none⟩,
    ⟨some 14, (.load false 1 (.t 13)), none⟩,
    ⟨some 15, (.move (.t 0)), none⟩,
    ⟨some 16, (.load false 1 (.t 1)), none⟩,
    ⟨some 17, (.nilCheck (.t 16)), none⟩,
    ⟨some 18, (.fieldAddr 2 (.t 17)), none⟩,
    ⟨some 19, (.load false 1 (.t 18)), none⟩,
    ⟨some 20, (.move (.t 0)), none⟩,
    ⟨some 21, (.load false 1 (.t 1)), none⟩,
    ⟨some 22, (.nilCheck (.t 21)), none⟩,
    ⟨some 23, (.fieldAddr 5 (.t 22)), none⟩,
    ⟨some 24, (.load false 1 (.t 23)), none⟩,
    ⟨some 25, (.load false 1 (.t 1)), none⟩,
    ⟨some 26, (.nilCheck (.t 25)), none⟩,
    ⟨some 27, (.fieldAddr 5 (.t 26)), none⟩,
    ⟨some 28, (.load false 1 (.t 27)), none⟩,
    ⟨some 29, (.indexAddr 1 (.t 14) (.t 15)), none⟩,
    ⟨none, (.store 1 (.t 29) (.t 24)), none⟩,
    ⟨some 30, (.indexAddr 1 (.t 19) (.t 20)), none⟩,
    ⟨none, (.store 1 (.t 30) (.t 28)), none⟩] [] [])
  (.seq (.region [
    ⟨some 31, (.load false 1 (.t 1)), none⟩,
    ⟨some 32, (.load false 1 (.t 1)), none⟩,
    ⟨some 33, (.nilCheck (.t 32)), none⟩,
    ⟨some 34, (.fieldAddr 3 (.t 33)), none⟩,
    ⟨some 35, (.load false 1 (.t 34)), none⟩,
    ⟨some 36, (.move (.t 0)), none⟩,
    ⟨some 37, (.buildSl 1 1 [(.s (.int .i64 0))] [(0, (.t 36))]), none⟩,
    ⟨some 38, (.append 1 8 (.t 35) (.t 37)), none⟩,
    ⟨some 39, (.nilCheck (.t 31)), none⟩,
    ⟨some 40, (.fieldAddr 3 (.t 39)), none⟩,
    ⟨none, (.store 1 (.t 40) (.t 38)), none⟩] [(0, 7)] [])
  (.region [
    ⟨some 41, (.load false 1 (.t 2)), none⟩,
    ⟨some 42, (.move (.t 0)), none⟩,
    ⟨some 43, (.build [(.s (.int .i64 0)), (.s (.int .i64 0))] [(0, 1), (1, 1)] [(0, (.t 42))]), none⟩,
    ⟨some 44, (.buildSl 2 1 [(.s (.int .i64 0)), (.s (.int .i64 0))] [(0, (.t 43))]), none⟩,
    ⟨some 45, (.append 2 16 (.t 41) (.t 44)), none⟩,
    ⟨none, (.store 1 (.t 2) (.t 45)), none⟩] [] [])))) }
def c_math_bits_Mul64 : ACFun := { ntmps := 51, results := [(.tmp 4), (.tmp 5)], body :=
  (.seq (.region [
    ⟨some 4, (.move (.c (.s (.int .u64 0)))), none⟩,
    ⟨some 5, (.move (.c (.s (.int .u64 0)))), none⟩] [] [])
  (.seq (.region [
    ⟨some 14, (.move (.t 0)), none⟩,
    ⟨some 15, (.bin .and (.t 14) (.c (.s (.int .u64 4294967295)))), none⟩,
    ⟨some 6, (.move (.t 15)), none⟩] [] [])
  (.seq (.region [
    ⟨some 16, (.move (.t 0)), none⟩,
    ⟨some 17, (.bin .shr (.t 16) (.c (.s (.int .u64 32)))), none⟩,
    ⟨some 7, (.move (.t 17)), none⟩] [] [])
  (.seq (.region [
    ⟨some 18, (.move (.t 1)), none⟩,
    ⟨some 19, (.bin .and (.t 18) (.c (.s (.int .u64 4294967295)))), none⟩,
    ⟨some 8, (.move (.t 19)), none⟩] [] [])
  (.seq (.region [
    ⟨some 20, (.move (.t 1)), none⟩,
    ⟨some 21, (.bin .shr (.t 20) (.c (.s (.int .u64 32)))), none⟩,
    ⟨some 9, (.move (.t 21)), none⟩] [] [])
  (.seq (.region [
    ⟨some 22, (.move (.t 6)), none⟩,
    ⟨some 23, (.move (.t 8)), none⟩,
    ⟨some 24, (.bin .mul (.t 22) (.t 23)), none⟩,
    ⟨some 10, (.move (.t 24)), none⟩] [] [])
  (.seq (.region [
    ⟨some 25, (.move (.t 7)), none⟩,
    ⟨some 26, (.move (.t 8)), none⟩,
    ⟨some 27, (.bin .mul (.t 25) (.t 26)), none⟩,
    ⟨some 28, (.move (.t 10)), none⟩,
    ⟨some 29, (.bin .shr (.t 28) (.c (.s (.int .u64 32)))), none⟩,
    ⟨some 30, (.bin .add (.t 27) (.t 29)), none⟩,
    ⟨some 11, (.move (.t 30)), none⟩] [] [])
  (.seq (.region [
    ⟨some 31, (.move (.t 11)), none⟩,
    ⟨some 32, (.bin .and (.t 31) (.c (.s (.int .u64 4294967295)))), none⟩,
    ⟨some 12, (.move (.t 32)), none⟩] [] [])
  (.seq (.region [
    ⟨some 33, (.move (.t 11)), none⟩,
    ⟨some 34, (.bin .shr (.t 33) (.c (.s (.int .u64 32)))), none⟩,
    ⟨some 13, (.move (.t 34)), none⟩] [] [])
  (.seq (.region [
    ⟨some 35, (.move (.t 12)), none⟩,
    ⟨some 36, (.move (.t 6)), none⟩,
    ⟨some 37, (.move (.t 9)), none⟩,
    ⟨some 38, (.bin .mul (.t 36) (.t 37)), none⟩,
    ⟨some 39, (.bin .add (.t 35) (.t 38)), none⟩,
    ⟨some 12, (.move (.t 39)), none⟩] [] [])
  (.seq (.region [
    ⟨some 40, (.move (.t 7)), none⟩,
    ⟨some 41, (.move (.t 9)), none⟩,
    ⟨some 42, (.bin .mul (.t 40) (.t 41)), none⟩,
    ⟨some 43, (.move (.t 13)), none⟩,
    ⟨some 44, (.bin .add (.t 42) (.t 43)), none⟩,
    ⟨some 45, (.move (.t 12)), none⟩,
    ⟨some 46, (.bin .shr (.t 45) (.c (.s (.int .u64 32)))), none⟩,
    ⟨some 47, (.bin .add (.t 44) (.t 46)), none⟩,
    ⟨some 4, (.move (.t 47)), none⟩] [] [])
  (.seq (.region [
    ⟨some 48, (.move (.t 0)), none⟩,
    ⟨some 49, (.move (.t 1)), none⟩,
    ⟨some 50, (.bin .mul (.t 48) (.t 49)), none⟩,
    ⟨some 5, (.move (.t 50)), none⟩] [] [])
  .ret)))))))))))) }
def CQ : Nat → Option CFun
  | 7 => some (.code c_gnomonlaw10_CfgKnown)
  | 8 => some (.code c_cfg_Uses)
  | 11 => some (.code c_gnomonlaw10_tells)
  | 13 => some (.code c_cfg_Of)
  | 14 => some (.code c_gnomonlaw10_rows)
  | 15 => some (.code c_cfg_Loops)
  | 17 => some (.code c_gnomonlaw10_name)
  | 18 => some (.code c_gnomonlaw10_CfgKnown_1)
  | 19 => some (.code c_cfg_some)
  | 20 => some (.code c_gnomonref05_sameTexts)
  | 21 => some (.code c_slices_Backward_api_Block_api_Block)
  | 22 => some (.code c_slices_Sort_int_int)
  | 23 => some (.code c_slices_Compact_int_int)
  | 24 => some (.code c_graph_Back)
  | 25 => some (.code c_scc_Cyclic)
  | 26 => some (.code c_slices_DeleteFunc_string_string)
  | 27 => some (.code c_cfg_some_1)
  | 28 => some (.code c_slices_Backward_api_Block_api_Block_1)
  | 29 => some (.code c_slices_pdqsortOrdered_int)
  | 30 => some (.code c_math_bits_Len)
  | 31 => some (.code c_graph_Norm)
  | 32 => some (.code c_scc_Comps)
  | 33 => some (.code c_scc_count)
  | 34 => some (.code c_slices_Contains_int_int)
  | 35 => some (.code c_slices_IndexFunc_string_string)
  | 36 => some (.code c_slices_insertionSortOrdered_int)
  | 42 => some (.code c_cmp_Less_int)
  | 45 => some (.code c_math_bits_Len32)
  | 46 => some (.code c_math_bits_Len64)
  | 47 => some (.code c_slices_DeleteFunc_int_int)
  | 48 => some (.code c_slices_Clone_int_int)
  | 49 => some (.code c_graph_Norm_1)
  | 50 => some (.code c_scc_rows_nodes)
  | 51 => some (.code c_slices_Repeat_int_int)
  | 52 => some (.code c_scc_walk_enter)
  | 53 => some (.code c_slices_Index_int_int)
  | 59 => some (.code c_cmp_isNaN_int)
  | 60 => some (.code c_slices_IndexFunc_int_int)
  | 61 => some (.code c_math_bits_Mul)
  | 62 => some (.code c_scc_walk_enter_1)
  | 65 => some (.code c_math_bits_Mul64)
  | _ => none
theorem CQ_7 : compK Try.prog PX0 7 = some (false, c_gnomonlaw10_CfgKnown.ntmps, c_gnomonlaw10_CfgKnown.results, c_gnomonlaw10_CfgKnown.body.bare) := by kernel_rfl
theorem CQ_8 : compK Try.prog PX0 8 = some (false, c_cfg_Uses.ntmps, c_cfg_Uses.results, c_cfg_Uses.body.bare) := by kernel_rfl
theorem CQ_11 : compK Try.prog PX0 11 = some (false, c_gnomonlaw10_tells.ntmps, c_gnomonlaw10_tells.results, c_gnomonlaw10_tells.body.bare) := by kernel_rfl
theorem CQ_13 : compK Try.prog PX0 13 = some (false, c_cfg_Of.ntmps, c_cfg_Of.results, c_cfg_Of.body.bare) := by kernel_rfl
theorem CQ_14 : compK Try.prog PX0 14 = some (false, c_gnomonlaw10_rows.ntmps, c_gnomonlaw10_rows.results, c_gnomonlaw10_rows.body.bare) := by kernel_rfl
theorem CQ_15 : compK Try.prog PX0 15 = some (false, c_cfg_Loops.ntmps, c_cfg_Loops.results, c_cfg_Loops.body.bare) := by kernel_rfl
theorem CQ_17 : compK Try.prog PX0 17 = some (false, c_gnomonlaw10_name.ntmps, c_gnomonlaw10_name.results, c_gnomonlaw10_name.body.bare) := by kernel_rfl
theorem CQ_18 : compK Try.prog PX0 18 = some (false, c_gnomonlaw10_CfgKnown_1.ntmps, c_gnomonlaw10_CfgKnown_1.results, c_gnomonlaw10_CfgKnown_1.body.bare) := by kernel_rfl
theorem CQ_19 : compK Try.prog PX0 19 = some (false, c_cfg_some.ntmps, c_cfg_some.results, c_cfg_some.body.bare) := by kernel_rfl
theorem CQ_20 : compK Try.prog PX0 20 = some (false, c_gnomonref05_sameTexts.ntmps, c_gnomonref05_sameTexts.results, c_gnomonref05_sameTexts.body.bare) := by kernel_rfl
theorem CQ_21 : compK Try.prog PX0 21 = some (false, c_slices_Backward_api_Block_api_Block.ntmps, c_slices_Backward_api_Block_api_Block.results, c_slices_Backward_api_Block_api_Block.body.bare) := by kernel_rfl
theorem CQ_22 : compK Try.prog PX0 22 = some (false, c_slices_Sort_int_int.ntmps, c_slices_Sort_int_int.results, c_slices_Sort_int_int.body.bare) := by kernel_rfl
theorem CQ_23 : compK Try.prog PX0 23 = some (false, c_slices_Compact_int_int.ntmps, c_slices_Compact_int_int.results, c_slices_Compact_int_int.body.bare) := by kernel_rfl
theorem CQ_24 : compK Try.prog PX0 24 = some (false, c_graph_Back.ntmps, c_graph_Back.results, c_graph_Back.body.bare) := by kernel_rfl
theorem CQ_25 : compK Try.prog PX0 25 = some (false, c_scc_Cyclic.ntmps, c_scc_Cyclic.results, c_scc_Cyclic.body.bare) := by kernel_rfl
theorem CQ_26 : compK Try.prog PX0 26 = some (false, c_slices_DeleteFunc_string_string.ntmps, c_slices_DeleteFunc_string_string.results, c_slices_DeleteFunc_string_string.body.bare) := by kernel_rfl
theorem CQ_27 : compK Try.prog PX0 27 = some (false, c_cfg_some_1.ntmps, c_cfg_some_1.results, c_cfg_some_1.body.bare) := by kernel_rfl
theorem CQ_28 : compK Try.prog PX0 28 = some (false, c_slices_Backward_api_Block_api_Block_1.ntmps, c_slices_Backward_api_Block_api_Block_1.results, c_slices_Backward_api_Block_api_Block_1.body.bare) := by kernel_rfl
theorem CQ_29 : compK Try.prog PX0 29 = some (false, c_slices_pdqsortOrdered_int.ntmps, c_slices_pdqsortOrdered_int.results, c_slices_pdqsortOrdered_int.body.bare) := by kernel_rfl
theorem CQ_30 : compK Try.prog PX0 30 = some (false, c_math_bits_Len.ntmps, c_math_bits_Len.results, c_math_bits_Len.body.bare) := by kernel_rfl
theorem CQ_31 : compK Try.prog PX0 31 = some (false, c_graph_Norm.ntmps, c_graph_Norm.results, c_graph_Norm.body.bare) := by kernel_rfl
theorem CQ_32 : compK Try.prog PX0 32 = some (false, c_scc_Comps.ntmps, c_scc_Comps.results, c_scc_Comps.body.bare) := by kernel_rfl
theorem CQ_33 : compK Try.prog PX0 33 = some (false, c_scc_count.ntmps, c_scc_count.results, c_scc_count.body.bare) := by kernel_rfl
theorem CQ_34 : compK Try.prog PX0 34 = some (false, c_slices_Contains_int_int.ntmps, c_slices_Contains_int_int.results, c_slices_Contains_int_int.body.bare) := by kernel_rfl
theorem CQ_35 : compK Try.prog PX0 35 = some (false, c_slices_IndexFunc_string_string.ntmps, c_slices_IndexFunc_string_string.results, c_slices_IndexFunc_string_string.body.bare) := by kernel_rfl
theorem CQ_36 : compK Try.prog PX0 36 = some (false, c_slices_insertionSortOrdered_int.ntmps, c_slices_insertionSortOrdered_int.results, c_slices_insertionSortOrdered_int.body.bare) := by kernel_rfl
theorem CQ_42 : compK Try.prog PX0 42 = some (false, c_cmp_Less_int.ntmps, c_cmp_Less_int.results, c_cmp_Less_int.body.bare) := by kernel_rfl
theorem CQ_45 : compK Try.prog PX0 45 = some (false, c_math_bits_Len32.ntmps, c_math_bits_Len32.results, c_math_bits_Len32.body.bare) := by kernel_rfl
theorem CQ_46 : compK Try.prog PX0 46 = some (false, c_math_bits_Len64.ntmps, c_math_bits_Len64.results, c_math_bits_Len64.body.bare) := by kernel_rfl
theorem CQ_47 : compK Try.prog PX0 47 = some (false, c_slices_DeleteFunc_int_int.ntmps, c_slices_DeleteFunc_int_int.results, c_slices_DeleteFunc_int_int.body.bare) := by kernel_rfl
theorem CQ_48 : compK Try.prog PX0 48 = some (false, c_slices_Clone_int_int.ntmps, c_slices_Clone_int_int.results, c_slices_Clone_int_int.body.bare) := by kernel_rfl
theorem CQ_49 : compK Try.prog PX0 49 = some (false, c_graph_Norm_1.ntmps, c_graph_Norm_1.results, c_graph_Norm_1.body.bare) := by kernel_rfl
theorem CQ_50 : compK Try.prog PX0 50 = some (false, c_scc_rows_nodes.ntmps, c_scc_rows_nodes.results, c_scc_rows_nodes.body.bare) := by kernel_rfl
theorem CQ_51 : compK Try.prog PX0 51 = some (false, c_slices_Repeat_int_int.ntmps, c_slices_Repeat_int_int.results, c_slices_Repeat_int_int.body.bare) := by kernel_rfl
theorem CQ_52 : compK Try.prog PX0 52 = some (false, c_scc_walk_enter.ntmps, c_scc_walk_enter.results, c_scc_walk_enter.body.bare) := by kernel_rfl
theorem CQ_53 : compK Try.prog PX0 53 = some (false, c_slices_Index_int_int.ntmps, c_slices_Index_int_int.results, c_slices_Index_int_int.body.bare) := by kernel_rfl
theorem CQ_59 : compK Try.prog PX0 59 = some (false, c_cmp_isNaN_int.ntmps, c_cmp_isNaN_int.results, c_cmp_isNaN_int.body.bare) := by kernel_rfl
theorem CQ_60 : compK Try.prog PX0 60 = some (false, c_slices_IndexFunc_int_int.ntmps, c_slices_IndexFunc_int_int.results, c_slices_IndexFunc_int_int.body.bare) := by kernel_rfl
theorem CQ_61 : compK Try.prog PX0 61 = some (false, c_math_bits_Mul.ntmps, c_math_bits_Mul.results, c_math_bits_Mul.body.bare) := by kernel_rfl
theorem CQ_62 : compK Try.prog PX0 62 = some (false, c_scc_walk_enter_1.ntmps, c_scc_walk_enter_1.results, c_scc_walk_enter_1.body.bare) := by kernel_rfl
theorem CQ_65 : compK Try.prog PX0 65 = some (false, c_math_bits_Mul64.ntmps, c_math_bits_Mul64.results, c_math_bits_Mul64.body.bare) := by kernel_rfl
theorem CQ_ok (fx : Nat → Option (Array Value × TypeId × Nat × Nat)) : ∀ k c, CQ k = some c → FunOk Try.prog (PXf fx) k c := by
  intro k c h
  unfold CQ at h
  split at h
  · cases h; exact funOk_f fx CQ_7
  · cases h; exact funOk_f fx CQ_8
  · cases h; exact funOk_f fx CQ_11
  · cases h; exact funOk_f fx CQ_13
  · cases h; exact funOk_f fx CQ_14
  · cases h; exact funOk_f fx CQ_15
  · cases h; exact funOk_f fx CQ_17
  · cases h; exact funOk_f fx CQ_18
  · cases h; exact funOk_f fx CQ_19
  · cases h; exact funOk_f fx CQ_20
  · cases h; exact funOk_f fx CQ_21
  · cases h; exact funOk_f fx CQ_22
  · cases h; exact funOk_f fx CQ_23
  · cases h; exact funOk_f fx CQ_24
  · cases h; exact funOk_f fx CQ_25
  · cases h; exact funOk_f fx CQ_26
  · cases h; exact funOk_f fx CQ_27
  · cases h; exact funOk_f fx CQ_28
  · cases h; exact funOk_f fx CQ_29
  · cases h; exact funOk_f fx CQ_30
  · cases h; exact funOk_f fx CQ_31
  · cases h; exact funOk_f fx CQ_32
  · cases h; exact funOk_f fx CQ_33
  · cases h; exact funOk_f fx CQ_34
  · cases h; exact funOk_f fx CQ_35
  · cases h; exact funOk_f fx CQ_36
  · cases h; exact funOk_f fx CQ_42
  · cases h; exact funOk_f fx CQ_45
  · cases h; exact funOk_f fx CQ_46
  · cases h; exact funOk_f fx CQ_47
  · cases h; exact funOk_f fx CQ_48
  · cases h; exact funOk_f fx CQ_49
  · cases h; exact funOk_f fx CQ_50
  · cases h; exact funOk_f fx CQ_51
  · cases h; exact funOk_f fx CQ_52
  · cases h; exact funOk_f fx CQ_53
  · cases h; exact funOk_f fx CQ_59
  · cases h; exact funOk_f fx CQ_60
  · cases h; exact funOk_f fx CQ_61
  · cases h; exact funOk_f fx CQ_62
  · cases h; exact funOk_f fx CQ_65
  · cases h
theorem known_true : givesE CQ 400 7 = some (bl true) := by kernel_rfl
end Go.Proofs.Ytgimjihhlhjejaa
namespace Go.AM
open Go.RowKit
inductive Ty where
  | int (k : IntKind) | bool | str
  | sl (e : Ty)
  | st (fs : List Ty)
  deriving Inhabited
mutual
def Ty.width : Ty → Nat
  | .int _ => 1
  | .bool => 1
  | .str => 1
  | .sl _ => 1
  | .st fs => widths fs
def widths : List Ty → Nat
  | [] => 0
  | f :: fs => f.width + widths fs
end
mutual
def tyOk (P : Program) : Nat → Ty → TypeId → Bool
  | 0, _, _ => false
  | n + 1, ty, t => match ty, P.underlying t with
    | .int k, some (.int k') => k == k'
    | .bool, some .bool => true
    | .str, some .string => true
    | .sl e, some (.slice e') => tyOk P n e e' && P.cellsOf e' == e.width && decide (0 < e.width)
    | .st fs, some (.struct gs) => P.cellsOf t == widths fs && tysOk P n 0 fs gs.toList
    | _, _ => false
def tysOk (P : Program) : Nat → Nat → List Ty → List Field → Bool
  | 0, _, _, _ => false
  | n + 1, off, fs, gs => match fs, gs with
    | [], [] => true
    | f :: fs, g :: gs => g.offset == off && P.cellsOf g.type == f.width && tyOk P n f g.type && tysOk P n (off + f.width) fs gs
    | _, _ => false
end
mutual
def IsV : Ty → List V → Prop
  | .int k, cs => ∃ n, cs = [.s (.int k n)] ∧ k.min ≤ n ∧ n ≤ k.max
  | .bool, cs => ∃ b, cs = [.s (.bool b)]
  | .str, cs => ∃ b, cs = [.s (.string b)] ∧ b.size ≤ maxLen
  | .sl e, cs => cs = [nilS] ∨ ∃ es : List (List V), cs = [.psl es e.width] ∧ es.length ≤ maxLen ∧ ∀ x ∈ es, IsV e x
  | .st fs, cs => IsVs fs cs
def IsVs : List Ty → List V → Prop
  | [], cs => cs = []
  | f :: fs, cs => ∃ a b, cs = a ++ b ∧ IsV f a ∧ IsVs fs b
end
mutual
theorem IsV.len : ∀ (t : Ty) {cs : List V}, IsV t cs → cs.length = t.width
  | .int _, cs, h => by obtain ⟨n, rfl, _⟩ := h; rfl
  | .bool, cs, h => by obtain ⟨n, rfl⟩ := h; rfl
  | .str, cs, h => by obtain ⟨n, rfl, _⟩ := h; rfl
  | .sl e, cs, h => by rcases h with rfl | ⟨es, rfl, _⟩ <;> rfl
  | .st fs, cs, h => IsVs.len fs h
theorem IsVs.len : ∀ (fs : List Ty) {cs : List V}, IsVs fs cs → cs.length = widths fs
  | [], cs, h => by cases h; rfl
  | f :: fs, cs, h => by
    obtain ⟨a, b, rfl, h1, h2⟩ := h
    rw [List.length_append, IsV.len f h1, IsVs.len fs h2]; rfl
end
abbrev PRs (w : World) (vs : List V) (cs : List Value) : Prop := vs.length = cs.length ∧ ∀ (i : Nat) (a : V) (b : Value), vs[i]? = some a → cs[i]? = some b → PR (fun _ => False) w a b
theorem PRs.app {w : World} {a b : List V} {c d : List Value} (h : PRs w a c) (k : PRs w b d) : PRs w (a ++ b) (c ++ d) := by
  refine ⟨by simp [h.1, k.1], fun i x y hx hy => ?_⟩
  by_cases hi : i < a.length
  · rw [List.getElem?_append_left hi] at hx
    rw [List.getElem?_append_left (by rw [← h.1]; exact hi)] at hy
    exact h.2 i x y hx hy
  · rw [List.getElem?_append_right (by omega)] at hx
    rw [List.getElem?_append_right (by rw [← h.1]; omega), ← h.1] at hy
    exact k.2 _ x y hx hy
theorem PRs.one {w : World} {a : V} {b : Value} (h : PR (fun _ => False) w a b) : PRs w [a] [b] := ⟨rfl, fun i x y hx hy => by
  cases i with
  | zero => simp at hx hy; rw [← hx, ← hy]; exact h
  | succ i => simp at hx⟩
theorem PRs.vrs {w : World} {vs : List V} {cs : List Value} (h : PRs w vs cs) : VRs (fun _ _ => none) (fun _ => False) w vs cs := ⟨h.1, fun i a b ha hb => (h.2 i a b ha hb).vr⟩
section
variable {H : Type} {enc : TypeId × Value → H} {P : Program} {w : World} {base : Nat} {sp : Nat → Bool} {held : Bool}
end
end Go.AM
