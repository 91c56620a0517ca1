/- Functions of the given program, their rows told as expressions. -/
import Derived.Test.YtamlbkalopefgaaRNamesC
set_option linter.all false
set_option maxRecDepth 100000
namespace Go.Proofs.YtamlbkalopefgaaR
open Go.AM

/- 3 gnomon/gnomonlaw05.NamesNames -/
abbrev k_gnomonlaw05_NamesNames : Nat := 3
def s_gnomonlaw05_NamesNames_r0_k : List Nat := [1, 2, 3, 4, 5, 6, 7, 8, 9, 10, 11, 12, 13]
theorem s_gnomonlaw05_NamesNames_r0_kT : killV s_gnomonlaw05_NamesNames_r0_k (startV 14 [] 1) = [] := by kernel_rfl
theorem s_gnomonlaw05_NamesNames_r0_kA0 : s_gnomonlaw05_NamesNames_r0_k.contains 0 = false := by kernel_rfl
def s_gnomonlaw05_NamesNames_r0 : List AOper := [
  ⟨some 2, (.move (.c (.s (.bool false)))), none⟩]
theorem s_gnomonlaw05_NamesNames_r0_tale (fr : List V) (H : Heap) : evTale (symAll s_gnomonlaw05_NamesNames_r0 s_gnomonlaw05_NamesNames_r0_k []) s_gnomonlaw05_NamesNames_r0_k fr H = evTale (some (3, [], [])) s_gnomonlaw05_NamesNames_r0_k fr H := tale_row (items := [.cc (.s (.bool false))]) (by kernel_rfl) fr H
def s_gnomonlaw05_NamesNames_r1 : List AOper := [
  ⟨some 3, (.move (.t 0)), none⟩,
  ⟨some 4, (.lenS .p (.t 3)), none⟩,
  ⟨some 5, (.bin .gtr (.t 4) (.c (.s (.int .i64 20000)))), none⟩]
theorem s_gnomonlaw05_NamesNames_r1_tale (fr : List V) (H : Heap) : evTale (symAll s_gnomonlaw05_NamesNames_r1 [3, 4] [5]) [3, 4] fr H = evTale (some (6, [], [(5, (.op (.bin .gtr (.t 0) (.c (.s (.int .i64 20000)))) [(.op (.lenS .p (.t 0)) [(.t 0)]), (.c (.s (.int .i64 20000)))]))])) [3, 4] fr H := tale_row (items := [.tt 0, .sub 0 [0] [], .sub 0 [] []]) (by kernel_rfl) fr H
def s_gnomonlaw05_NamesNames_r2 : List AOper := [
  ⟨some 2, (.move (.c (.s (.bool true)))), none⟩]
theorem s_gnomonlaw05_NamesNames_r2_tale (fr : List V) (H : Heap) : evTale (symAll s_gnomonlaw05_NamesNames_r2 [0, 5] [2]) [0, 5] fr H = evTale (some (3, [], [(2, (.c (.s (.bool true))))])) [0, 5] fr H := tale_row (items := [.cc (.s (.bool true))]) (by kernel_rfl) fr H
def s_gnomonlaw05_NamesNames_r3 : List AOper := [
  ⟨some 6, (.move (.t 0)), none⟩,
  ⟨some 7, (.call (.c (.fn 7 [] [])) [(.t 6)]), none⟩,
  ⟨some 8, (.move (.t 0)), none⟩,
  ⟨some 9, (.call (.c (.fn 8 [] [])) [(.t 8)]), none⟩,
  ⟨some 10, (.eqB false (.t 7) (.t 9)), none⟩,
  ⟨some 11, (.move (.t 10)), none⟩,
  ⟨some 12, (.call (.c (.fn 9 [] [])) []), some (11, true)⟩,
  ⟨some 13, (.pick (.t 11) (.t 12) (.c (.s (.bool false)))), none⟩,
  ⟨some 2, (.move (.t 13)), none⟩]
def s_gnomonlaw05_NamesNames : ACFun := { ntmps := 14, results := [(.tmp 2)], body :=
  (.seq (.regionE s_gnomonlaw05_NamesNames_r0 s_gnomonlaw05_NamesNames_r0_k [])
  (.seq (.seq (.regionE s_gnomonlaw05_NamesNames_r1 [3, 4] [5])
  (.cond (.t 5)
  (.seq (.regionE s_gnomonlaw05_NamesNames_r2 [0, 5] [2])
  .ret)
  .skip))
  (.seq (.region s_gnomonlaw05_NamesNames_r3 [] [0, 5, 6, 7, 8, 9, 10, 11, 12, 13])
  .ret))) }
/- 7 gnomon/names.Is -/
abbrev k_names_Is : Nat := 7
def s_names_Is_r0_k : List Nat := [1, 2, 3, 4, 5, 6, 7, 8, 9, 10, 11, 12, 13, 14, 15, 16, 17, 18, 19, 20, 21, 22, 23, 24, 25, 26, 27, 28, 29, 30, 31, 32, 33, 34, 35, 36, 37, 38, 39, 40, 41, 42, 43, 44, 45, 46, 47, 48, 49, 50, 51, 52, 53, 54, 55, 56, 57, 58, 59, 60, 61]
theorem s_names_Is_r0_kT : killV s_names_Is_r0_k (startV 62 [] 1) = [] := by kernel_rfl
theorem s_names_Is_r0_kA0 : s_names_Is_r0_k.contains 0 = false := by kernel_rfl
def s_names_Is_r0 : List AOper := [
  ⟨some 2, (.move (.c (.s (.bool false)))), none⟩]
theorem s_names_Is_r0_tale (fr : List V) (H : Heap) : evTale (symAll s_names_Is_r0 s_names_Is_r0_k []) s_names_Is_r0_k fr H = evTale (some (3, [], [])) s_names_Is_r0_k fr H := tale_row (items := [.cc (.s (.bool false))]) (by kernel_rfl) fr H
def s_names_Is_r1 : List AOper := [
  ⟨some 6, (.move (.t 0)), none⟩,
  ⟨some 7, (.bin .eql (.t 6) (.c (.s (.string ⟨#[]⟩)))), none⟩,
  ⟨some 8, (.move (.t 7)), none⟩,
  ⟨some 9, (.move (.t 0)), some (8, false)⟩,
  ⟨some 10, (.lenS .p (.t 9)), some (8, false)⟩,
  ⟨some 11, (.bin .gtr (.t 10) (.c (.s (.int .i64 64)))), some (8, false)⟩,
  ⟨some 12, (.pick (.t 8) (.c (.s (.bool true))) (.t 11)), none⟩,
  ⟨some 13, (.move (.t 12)), none⟩,
  ⟨some 14, (.move (.t 0)), some (13, false)⟩,
  ⟨some 15, (.bin .eql (.t 14) (.c (.s (.string ⟨#[110, 117, 108, 108]⟩)))), some (13, false)⟩,
  ⟨some 16, (.pick (.t 13) (.c (.s (.bool true))) (.t 15)), none⟩]
theorem s_names_Is_r1_tale (fr : List V) (H : Heap) : evTale (symAll s_names_Is_r1 [6, 7, 8, 9, 10, 11, 12, 13, 14, 15] [16]) [6, 7, 8, 9, 10, 11, 12, 13, 14, 15] fr H = evTale (some (17, [], [(16, (.pick (.pick (.op (.bin .eql (.t 0) (.c (.s (.string ⟨#[]⟩)))) [(.t 0), (.c (.s (.string ⟨#[]⟩)))]) (.c (.s (.bool true))) (.op (.bin .gtr (.t 0) (.c (.s (.int .i64 64)))) [(.op (.lenS .p (.t 0)) [(.t 0)]), (.c (.s (.int .i64 64)))])) (.c (.s (.bool true))) (.op (.bin .eql (.t 0) (.c (.s (.string ⟨#[110, 117, 108, 108]⟩)))) [(.t 0), (.c (.s (.string ⟨#[110, 117, 108, 108]⟩)))])))])) [6, 7, 8, 9, 10, 11, 12, 13, 14, 15] fr H := tale_row (items := [.tt 0, .sub 0 [0, 0] [], .sub 0 [0, 0] [], .sub 0 [0, 2, 0, 0] [8], .sub 0 [0, 2, 0] [8], .sub 0 [0, 2] [8], .sub 0 [0] [], .sub 0 [0] [], .sub 0 [2, 0] [13], .sub 0 [2] [13], .sub 0 [] []]) (by kernel_rfl) fr H
def s_names_Is_r2 : List AOper := [
  ⟨some 2, (.move (.c (.s (.bool false)))), none⟩]
theorem s_names_Is_r2_tale (fr : List V) (H : Heap) : evTale (symAll s_names_Is_r2 [0, 16] [2]) [0, 16] fr H = evTale (some (3, [], [(2, (.c (.s (.bool false))))])) [0, 16] fr H := tale_row (items := [.cc (.s (.bool false))]) (by kernel_rfl) fr H
def s_names_Is_r3 : List AOper := [
  ⟨some 17, (.move (.t 0)), none⟩,
  ⟨some 18, (.lenS .p (.t 17)), none⟩,
  ⟨some 19, (.move (.c (.s (.int .i64 0)))), none⟩]
theorem s_names_Is_r3_tale (fr : List V) (H : Heap) : evTale (symAll s_names_Is_r3 [16, 17] [18, 19]) [16, 17] fr H = evTale (some (20, [], [(18, (.op (.lenS .p (.t 0)) [(.t 0)])), (19, (.c (.s (.int .i64 0))))])) [16, 17] fr H := tale_row (items := [.tt 0, .sub 0 [] [], .cc (.s (.int .i64 0))]) (by kernel_rfl) fr H
def s_names_Is_r4 : List AOper := [
  ⟨some 20, (.bin .lss (.t 19) (.t 18)), none⟩]
theorem s_names_Is_r4_tale (fr : List V) (H : Heap) : evTale (symAll s_names_Is_r4 [] [20]) [] fr H = evTale (some (21, [], [(20, (.op (.bin .lss (.t 0) (.t 1)) [(.t 19), (.t 18)]))])) [] fr H := tale_row (items := [.sub 0 [] []]) (by kernel_rfl) fr H
def s_names_Is_r5 : List AOper := [
  ⟨some 21, (.move (.t 19)), none⟩,
  ⟨some 3, (.move (.t 21)), none⟩]
theorem s_names_Is_r5_tale (fr : List V) (H : Heap) : evTale (symAll s_names_Is_r5 [20, 21] [3]) [20, 21] fr H = evTale (some (22, [], [(3, (.t 19))])) [20, 21] fr H := tale_row (items := [.tt 19, .tt 19]) (by kernel_rfl) fr H
def s_names_Is_r6 : List AOper := [
  ⟨some 22, (.move (.t 0)), none⟩,
  ⟨some 23, (.move (.t 3)), none⟩,
  ⟨some 24, (.indexStr (.t 22) (.t 23)), none⟩,
  ⟨some 4, (.move (.t 24)), none⟩]
theorem s_names_Is_r6_tale (fr : List V) (H : Heap) : evTale (symAll s_names_Is_r6 [22, 23, 24] [4]) [22, 23, 24] fr H = evTale (some (25, [], [(4, (.op (.indexStr (.t 0) (.t 1)) [(.t 0), (.t 3)]))])) [22, 23, 24] fr H := tale_row (items := [.tt 0, .tt 3, .sub 0 [] [], .sub 0 [] []]) (by kernel_rfl) fr H
def s_names_Is_r7 : List AOper := [
  ⟨some 25, (.move (.t 4)), none⟩,
  ⟨some 26, (.bin .geq (.t 25) (.c (.s (.int .u8 97)))), none⟩,
  ⟨some 27, (.move (.t 26)), none⟩,
  ⟨some 28, (.move (.t 4)), some (27, true)⟩,
  ⟨some 29, (.bin .leq (.t 28) (.c (.s (.int .u8 122)))), some (27, true)⟩,
  ⟨some 30, (.pick (.t 27) (.t 29) (.c (.s (.bool false)))), none⟩,
  ⟨some 31, (.move (.t 30)), none⟩,
  ⟨some 32, (.move (.t 4)), some (31, false)⟩,
  ⟨some 33, (.bin .geq (.t 32) (.c (.s (.int .u8 65)))), some (31, false)⟩,
  ⟨some 34, (.move (.t 33)), some (31, false)⟩,
  ⟨some 35, (.move (.t 4)), some (34, true)⟩,
  ⟨some 36, (.bin .leq (.t 35) (.c (.s (.int .u8 90)))), some (34, true)⟩,
  ⟨some 37, (.pick (.t 34) (.t 36) (.c (.s (.bool false)))), some (31, false)⟩,
  ⟨some 38, (.pick (.t 31) (.c (.s (.bool true))) (.t 37)), none⟩,
  ⟨some 39, (.move (.t 38)), none⟩,
  ⟨some 40, (.move (.t 4)), some (39, false)⟩,
  ⟨some 41, (.bin .eql (.t 40) (.c (.s (.int .u8 95)))), some (39, false)⟩,
  ⟨some 42, (.pick (.t 39) (.c (.s (.bool true))) (.t 41)), none⟩,
  ⟨some 5, (.move (.t 42)), none⟩]
theorem s_names_Is_r7_tale (fr : List V) (H : Heap) : evTale (symAll s_names_Is_r7 [25, 26, 27, 28, 29, 30, 31, 32, 33, 34, 35, 36, 37, 38, 39, 40, 41, 42] [5]) [25, 26, 27, 28, 29, 30, 31, 32, 33, 34, 35, 36, 37, 38, 39, 40, 41, 42] fr H = evTale (some (43, [], [(5, (.pick (.pick (.pick (.op (.bin .geq (.t 0) (.c (.s (.int .u8 97)))) [(.t 4), (.c (.s (.int .u8 97)))]) (.op (.bin .leq (.t 0) (.c (.s (.int .u8 122)))) [(.t 4), (.c (.s (.int .u8 122)))]) (.c (.s (.bool false)))) (.c (.s (.bool true))) (.pick (.op (.bin .geq (.t 0) (.c (.s (.int .u8 65)))) [(.t 4), (.c (.s (.int .u8 65)))]) (.op (.bin .leq (.t 0) (.c (.s (.int .u8 90)))) [(.t 4), (.c (.s (.int .u8 90)))]) (.c (.s (.bool false))))) (.c (.s (.bool true))) (.op (.bin .eql (.t 0) (.c (.s (.int .u8 95)))) [(.t 4), (.c (.s (.int .u8 95)))])))])) [25, 26, 27, 28, 29, 30, 31, 32, 33, 34, 35, 36, 37, 38, 39, 40, 41, 42] fr H := tale_row (items := [.tt 4, .sub 0 [0, 0, 0] [], .sub 0 [0, 0, 0] [], .sub 0 [0, 0, 1, 0] [27], .sub 0 [0, 0, 1] [27], .sub 0 [0, 0] [], .sub 0 [0, 0] [], .sub 0 [0, 2, 0, 0] [31], .sub 0 [0, 2, 0] [31], .sub 0 [0, 2, 0] [31], .sub 0 [0, 2, 1, 0] [31, 34], .sub 0 [0, 2, 1] [31, 34], .sub 0 [0, 2] [31], .sub 0 [0] [], .sub 0 [0] [], .sub 0 [2, 0] [39], .sub 0 [2] [39], .sub 0 [] [], .sub 0 [] []]) (by kernel_rfl) fr H
def s_names_Is_r8 : List AOper := [
  ⟨some 43, (.move (.t 5)), none⟩,
  ⟨some 44, (.un .not (.t 43)), none⟩,
  ⟨some 45, (.move (.t 44)), none⟩,
  ⟨some 46, (.move (.t 3)), some (45, true)⟩,
  ⟨some 47, (.bin .eql (.t 46) (.c (.s (.int .i64 0)))), some (45, true)⟩,
  ⟨some 48, (.move (.t 47)), some (45, true)⟩,
  ⟨some 49, (.move (.t 4)), some (48, false)⟩,
  ⟨some 50, (.bin .lss (.t 49) (.c (.s (.int .u8 48)))), some (48, false)⟩,
  ⟨some 51, (.move (.t 50)), some (48, false)⟩,
  ⟨some 52, (.move (.t 4)), some (51, false)⟩,
  ⟨some 53, (.bin .gtr (.t 52) (.c (.s (.int .u8 57)))), some (51, false)⟩,
  ⟨some 54, (.pick (.t 51) (.c (.s (.bool true))) (.t 53)), some (48, false)⟩,
  ⟨some 55, (.move (.t 54)), some (48, false)⟩,
  ⟨some 56, (.move (.t 4)), some (55, true)⟩,
  ⟨some 57, (.bin .neq (.t 56) (.c (.s (.int .u8 46)))), some (55, true)⟩,
  ⟨some 58, (.pick (.t 55) (.t 57) (.c (.s (.bool false)))), some (48, false)⟩,
  ⟨some 59, (.pick (.t 48) (.c (.s (.bool true))) (.t 58)), some (45, true)⟩,
  ⟨some 60, (.pick (.t 45) (.t 59) (.c (.s (.bool false)))), none⟩]
theorem s_names_Is_r8_tale (fr : List V) (H : Heap) : evTale (symAll s_names_Is_r8 [3, 4, 5, 43, 44, 45, 46, 47, 48, 49, 50, 51, 52, 53, 54, 55, 56, 57, 58, 59] [60]) [3, 4, 5, 43, 44, 45, 46, 47, 48, 49, 50, 51, 52, 53, 54, 55, 56, 57, 58, 59] fr H = evTale (some (61, [], [(60, (.pick (.op (.un .not (.t 0)) [(.t 5)]) (.pick (.op (.bin .eql (.t 0) (.c (.s (.int .i64 0)))) [(.t 3), (.c (.s (.int .i64 0)))]) (.c (.s (.bool true))) (.pick (.pick (.op (.bin .lss (.t 0) (.c (.s (.int .u8 48)))) [(.t 4), (.c (.s (.int .u8 48)))]) (.c (.s (.bool true))) (.op (.bin .gtr (.t 0) (.c (.s (.int .u8 57)))) [(.t 4), (.c (.s (.int .u8 57)))])) (.op (.bin .neq (.t 0) (.c (.s (.int .u8 46)))) [(.t 4), (.c (.s (.int .u8 46)))]) (.c (.s (.bool false))))) (.c (.s (.bool false)))))])) [3, 4, 5, 43, 44, 45, 46, 47, 48, 49, 50, 51, 52, 53, 54, 55, 56, 57, 58, 59] fr H := tale_row (items := [.tt 5, .sub 0 [0] [], .sub 0 [0] [], .sub 0 [1, 0, 0] [45], .sub 0 [1, 0] [45], .sub 0 [1, 0] [45], .sub 0 [1, 2, 0, 0, 0] [45, 48], .sub 0 [1, 2, 0, 0] [45, 48], .sub 0 [1, 2, 0, 0] [45, 48], .sub 0 [1, 2, 0, 2, 0] [45, 48, 51], .sub 0 [1, 2, 0, 2] [45, 48, 51], .sub 0 [1, 2, 0] [45, 48], .sub 0 [1, 2, 0] [45, 48], .sub 0 [1, 2, 1, 0] [45, 48, 55], .sub 0 [1, 2, 1] [45, 48, 55], .sub 0 [1, 2] [45, 48], .sub 0 [1] [45], .sub 0 [] []]) (by kernel_rfl) fr H
def s_names_Is_r9 : List AOper := [
  ⟨some 2, (.move (.c (.s (.bool false)))), none⟩]
theorem s_names_Is_r9_tale (fr : List V) (H : Heap) : evTale (symAll s_names_Is_r9 [0, 18, 19, 60] [2]) [0, 18, 19, 60] fr H = evTale (some (3, [], [(2, (.c (.s (.bool false))))])) [0, 18, 19, 60] fr H := tale_row (items := [.cc (.s (.bool false))]) (by kernel_rfl) fr H
def s_names_Is_r10 : List AOper := [
  ⟨some 61, (.bin .add (.t 19) (.c (.s (.int .i64 1)))), none⟩,
  ⟨some 19, (.move (.t 61)), none⟩]
theorem s_names_Is_r10_tale (fr : List V) (H : Heap) : evTale (symAll s_names_Is_r10 [60, 61] [19]) [60, 61] fr H = evTale (some (62, [], [(19, (.op (.bin .add (.t 0) (.c (.s (.int .i64 1)))) [(.t 19), (.c (.s (.int .i64 1)))]))])) [60, 61] fr H := tale_row (items := [.sub 0 [] [], .sub 0 [] []]) (by kernel_rfl) fr H
def s_names_Is_l0_b : ACode :=
  (.seq (.regionE s_names_Is_r4 [] [20])
  (.seq (.cond (.t 20)
  .skip
  (.exit 0))
  (.seq (.block 1
  (.seq (.regionE s_names_Is_r5 [20, 21] [3])
  (.seq (.regionE s_names_Is_r6 [22, 23, 24] [4])
  (.seq (.regionE s_names_Is_r7 [25, 26, 27, 28, 29, 30, 31, 32, 33, 34, 35, 36, 37, 38, 39, 40, 41, 42] [5])
  (.seq (.regionE s_names_Is_r8 [3, 4, 5, 43, 44, 45, 46, 47, 48, 49, 50, 51, 52, 53, 54, 55, 56, 57, 58, 59] [60])
  (.cond (.t 60)
  (.seq (.regionE s_names_Is_r9 [0, 18, 19, 60] [2])
  .ret)
  .skip))))))
  (.regionE s_names_Is_r10 [60, 61] [19]))))
def s_names_Is_l0 : ACode := s_names_Is_l0_b
theorem s_names_Is_l0_ev (call : CallF) (it : IterF) (base : Nat) (fr : List V) (H : Heap) : evC call it base s_names_Is_l0 fr H = evC call it base s_names_Is_l0_b fr H := rfl
def s_names_Is_r11 : List AOper := [
  ⟨some 2, (.move (.c (.s (.bool true)))), none⟩]
theorem s_names_Is_r11_tale (fr : List V) (H : Heap) : evTale (symAll s_names_Is_r11 [0, 18, 19, 20] [2]) [0, 18, 19, 20] fr H = evTale (some (3, [], [(2, (.c (.s (.bool true))))])) [0, 18, 19, 20] fr H := tale_row (items := [.cc (.s (.bool true))]) (by kernel_rfl) fr H
def s_names_Is : ACFun := { ntmps := 62, results := [(.tmp 2)], body :=
  (.seq (.regionE s_names_Is_r0 s_names_Is_r0_k [])
  (.seq (.seq (.regionE s_names_Is_r1 [6, 7, 8, 9, 10, 11, 12, 13, 14, 15] [16])
  (.cond (.t 16)
  (.seq (.regionE s_names_Is_r2 [0, 16] [2])
  .ret)
  .skip))
  (.seq (.seq (.regionE s_names_Is_r3 [16, 17] [18, 19])
  (.block 0
  (.loop [] s_names_Is_l0)))
  (.seq (.regionE s_names_Is_r11 [0, 18, 19, 20] [2])
  .ret)))) }
/- 8 gnomon/gnomonref05.Is -/
abbrev k_gnomonref05_Is : Nat := 8
def s_gnomonref05_Is_r0_k : List Nat := [1, 2, 3, 4, 5, 6, 7, 8, 9, 10, 11, 12, 13, 14, 15, 16, 17, 18, 19, 20, 21, 22, 23, 24, 25, 26, 27, 28, 29, 30, 31, 32, 33, 34, 35, 36, 37, 38, 39, 40, 41, 42, 43, 44, 45, 46, 47, 48, 49, 50, 51, 52, 53, 54, 55, 56, 57]
theorem s_gnomonref05_Is_r0_kT : killV s_gnomonref05_Is_r0_k (startV 58 [] 1) = [] := by kernel_rfl
theorem s_gnomonref05_Is_r0_kA0 : s_gnomonref05_Is_r0_k.contains 0 = false := by kernel_rfl
def s_gnomonref05_Is_r0 : List AOper := [
  ⟨some 2, (.move (.c (.s (.bool false)))), none⟩]
theorem s_gnomonref05_Is_r0_tale (fr : List V) (H : Heap) : evTale (symAll s_gnomonref05_Is_r0 s_gnomonref05_Is_r0_k []) s_gnomonref05_Is_r0_k fr H = evTale (some (3, [], [])) s_gnomonref05_Is_r0_k fr H := tale_row (items := [.cc (.s (.bool false))]) (by kernel_rfl) fr H
def s_gnomonref05_Is_r1 : List AOper := [
  ⟨some 5, (.move (.t 0)), none⟩,
  ⟨some 6, (.lenS .p (.t 5)), none⟩,
  ⟨some 7, (.bin .eql (.t 6) (.c (.s (.int .i64 0)))), none⟩,
  ⟨some 8, (.move (.t 7)), none⟩,
  ⟨some 9, (.move (.t 0)), some (8, false)⟩,
  ⟨some 10, (.lenS .p (.t 9)), some (8, false)⟩,
  ⟨some 11, (.bin .gtr (.t 10) (.c (.s (.int .i64 64)))), some (8, false)⟩,
  ⟨some 12, (.pick (.t 8) (.c (.s (.bool true))) (.t 11)), none⟩,
  ⟨some 13, (.move (.t 12)), none⟩,
  ⟨some 14, (.move (.t 0)), some (13, false)⟩,
  ⟨some 15, (.bin .eql (.t 14) (.c (.s (.string ⟨#[110, 117, 108, 108]⟩)))), some (13, false)⟩,
  ⟨some 16, (.pick (.t 13) (.c (.s (.bool true))) (.t 15)), none⟩]
theorem s_gnomonref05_Is_r1_tale (fr : List V) (H : Heap) : evTale (symAll s_gnomonref05_Is_r1 [5, 6, 7, 8, 9, 10, 11, 12, 13, 14, 15] [16]) [5, 6, 7, 8, 9, 10, 11, 12, 13, 14, 15] fr H = evTale (some (17, [], [(16, (.pick (.pick (.op (.bin .eql (.t 0) (.c (.s (.int .i64 0)))) [(.op (.lenS .p (.t 0)) [(.t 0)]), (.c (.s (.int .i64 0)))]) (.c (.s (.bool true))) (.op (.bin .gtr (.t 0) (.c (.s (.int .i64 64)))) [(.op (.lenS .p (.t 0)) [(.t 0)]), (.c (.s (.int .i64 64)))])) (.c (.s (.bool true))) (.op (.bin .eql (.t 0) (.c (.s (.string ⟨#[110, 117, 108, 108]⟩)))) [(.t 0), (.c (.s (.string ⟨#[110, 117, 108, 108]⟩)))])))])) [5, 6, 7, 8, 9, 10, 11, 12, 13, 14, 15] fr H := tale_row (items := [.tt 0, .sub 0 [0, 0, 0] [], .sub 0 [0, 0] [], .sub 0 [0, 0] [], .sub 0 [0, 2, 0, 0] [8], .sub 0 [0, 2, 0] [8], .sub 0 [0, 2] [8], .sub 0 [0] [], .sub 0 [0] [], .sub 0 [2, 0] [13], .sub 0 [2] [13], .sub 0 [] []]) (by kernel_rfl) fr H
def s_gnomonref05_Is_r2 : List AOper := [
  ⟨some 2, (.move (.c (.s (.bool false)))), none⟩]
theorem s_gnomonref05_Is_r2_tale (fr : List V) (H : Heap) : evTale (symAll s_gnomonref05_Is_r2 [0, 16] [2]) [0, 16] fr H = evTale (some (3, [], [(2, (.c (.s (.bool false))))])) [0, 16] fr H := tale_row (items := [.cc (.s (.bool false))]) (by kernel_rfl) fr H
def s_gnomonref05_Is_r3 : List AOper := [
  ⟨some 3, (.move (.c (.s (.int .i64 0)))), none⟩]
theorem s_gnomonref05_Is_r3_tale (fr : List V) (H : Heap) : evTale (symAll s_gnomonref05_Is_r3 [16] [3]) [16] fr H = evTale (some (4, [], [(3, (.c (.s (.int .i64 0))))])) [16] fr H := tale_row (items := [.cc (.s (.int .i64 0))]) (by kernel_rfl) fr H
def s_gnomonref05_Is_r4 : List AOper := [
  ⟨some 17, (.move (.t 3)), none⟩,
  ⟨some 18, (.move (.t 0)), none⟩,
  ⟨some 19, (.lenS .p (.t 18)), none⟩,
  ⟨some 20, (.bin .lss (.t 17) (.t 19)), none⟩]
theorem s_gnomonref05_Is_r4_tale (fr : List V) (H : Heap) : evTale (symAll s_gnomonref05_Is_r4 [17, 18, 19] [20]) [17, 18, 19] fr H = evTale (some (21, [], [(20, (.op (.bin .lss (.t 0) (.t 1)) [(.t 3), (.op (.lenS .p (.t 0)) [(.t 0)])]))])) [17, 18, 19] fr H := tale_row (items := [.tt 3, .tt 0, .sub 0 [1] [], .sub 0 [] []]) (by kernel_rfl) fr H
def s_gnomonref05_Is_r5 : List AOper := [
  ⟨some 23, (.move (.t 0)), none⟩,
  ⟨some 24, (.move (.t 3)), none⟩,
  ⟨some 25, (.indexStr (.t 23) (.t 24)), none⟩,
  ⟨some 4, (.move (.t 25)), none⟩]
theorem s_gnomonref05_Is_r5_tale (fr : List V) (H : Heap) : evTale (symAll s_gnomonref05_Is_r5 [20, 23, 24, 25] [4]) [20, 23, 24, 25] fr H = evTale (some (26, [], [(4, (.op (.indexStr (.t 0) (.t 1)) [(.t 0), (.t 3)]))])) [20, 23, 24, 25] fr H := tale_row (items := [.tt 0, .tt 3, .sub 0 [] [], .sub 0 [] []]) (by kernel_rfl) fr H
def s_gnomonref05_Is_r6 : List AOper := [
  ⟨some 26, (.move (.t 4)), none⟩,
  ⟨some 27, (.bin .geq (.t 26) (.c (.s (.int .u8 65)))), none⟩,
  ⟨some 28, (.move (.t 27)), none⟩,
  ⟨some 29, (.move (.t 4)), some (28, true)⟩,
  ⟨some 30, (.bin .leq (.t 29) (.c (.s (.int .u8 90)))), some (28, true)⟩,
  ⟨some 31, (.pick (.t 28) (.t 30) (.c (.s (.bool false)))), none⟩,
  ⟨some 32, (.move (.t 31)), none⟩,
  ⟨some 33, (.move (.t 4)), some (32, false)⟩,
  ⟨some 34, (.bin .geq (.t 33) (.c (.s (.int .u8 97)))), some (32, false)⟩,
  ⟨some 35, (.move (.t 34)), some (32, false)⟩,
  ⟨some 36, (.move (.t 4)), some (35, true)⟩,
  ⟨some 37, (.bin .leq (.t 36) (.c (.s (.int .u8 122)))), some (35, true)⟩,
  ⟨some 38, (.pick (.t 35) (.t 37) (.c (.s (.bool false)))), some (32, false)⟩,
  ⟨some 39, (.pick (.t 32) (.c (.s (.bool true))) (.t 38)), none⟩,
  ⟨some 40, (.move (.t 39)), none⟩,
  ⟨some 41, (.move (.t 4)), some (40, false)⟩,
  ⟨some 42, (.bin .eql (.t 41) (.c (.s (.int .u8 95)))), some (40, false)⟩,
  ⟨some 43, (.pick (.t 40) (.c (.s (.bool true))) (.t 42)), none⟩]
theorem s_gnomonref05_Is_r6_tale (fr : List V) (H : Heap) : evTale (symAll s_gnomonref05_Is_r6 [26, 27, 28, 29, 30, 31, 32, 33, 34, 35, 36, 37, 38, 39, 40, 41, 42] [43]) [26, 27, 28, 29, 30, 31, 32, 33, 34, 35, 36, 37, 38, 39, 40, 41, 42] fr H = evTale (some (44, [], [(43, (.pick (.pick (.pick (.op (.bin .geq (.t 0) (.c (.s (.int .u8 65)))) [(.t 4), (.c (.s (.int .u8 65)))]) (.op (.bin .leq (.t 0) (.c (.s (.int .u8 90)))) [(.t 4), (.c (.s (.int .u8 90)))]) (.c (.s (.bool false)))) (.c (.s (.bool true))) (.pick (.op (.bin .geq (.t 0) (.c (.s (.int .u8 97)))) [(.t 4), (.c (.s (.int .u8 97)))]) (.op (.bin .leq (.t 0) (.c (.s (.int .u8 122)))) [(.t 4), (.c (.s (.int .u8 122)))]) (.c (.s (.bool false))))) (.c (.s (.bool true))) (.op (.bin .eql (.t 0) (.c (.s (.int .u8 95)))) [(.t 4), (.c (.s (.int .u8 95)))])))])) [26, 27, 28, 29, 30, 31, 32, 33, 34, 35, 36, 37, 38, 39, 40, 41, 42] fr H := tale_row (items := [.tt 4, .sub 0 [0, 0, 0] [], .sub 0 [0, 0, 0] [], .sub 0 [0, 0, 1, 0] [28], .sub 0 [0, 0, 1] [28], .sub 0 [0, 0] [], .sub 0 [0, 0] [], .sub 0 [0, 2, 0, 0] [32], .sub 0 [0, 2, 0] [32], .sub 0 [0, 2, 0] [32], .sub 0 [0, 2, 1, 0] [32, 35], .sub 0 [0, 2, 1] [32, 35], .sub 0 [0, 2] [32], .sub 0 [0] [], .sub 0 [0] [], .sub 0 [2, 0] [40], .sub 0 [2] [40], .sub 0 [] []]) (by kernel_rfl) fr H
def s_gnomonref05_Is_r7 : List AOper := [
  ⟨some 44, (.move (.t 3)), none⟩,
  ⟨some 45, (.bin .gtr (.t 44) (.c (.s (.int .i64 0)))), none⟩,
  ⟨some 46, (.move (.t 45)), none⟩,
  ⟨some 47, (.move (.t 4)), some (46, true)⟩,
  ⟨some 48, (.bin .geq (.t 47) (.c (.s (.int .u8 48)))), some (46, true)⟩,
  ⟨some 49, (.move (.t 48)), some (46, true)⟩,
  ⟨some 50, (.move (.t 4)), some (49, true)⟩,
  ⟨some 51, (.bin .leq (.t 50) (.c (.s (.int .u8 57)))), some (49, true)⟩,
  ⟨some 52, (.pick (.t 49) (.t 51) (.c (.s (.bool false)))), some (46, true)⟩,
  ⟨some 53, (.move (.t 52)), some (46, true)⟩,
  ⟨some 54, (.move (.t 4)), some (53, false)⟩,
  ⟨some 55, (.bin .eql (.t 54) (.c (.s (.int .u8 46)))), some (53, false)⟩,
  ⟨some 56, (.pick (.t 53) (.c (.s (.bool true))) (.t 55)), some (46, true)⟩,
  ⟨some 57, (.pick (.t 46) (.t 56) (.c (.s (.bool false)))), none⟩]
theorem s_gnomonref05_Is_r7_tale (fr : List V) (H : Heap) : evTale (symAll s_gnomonref05_Is_r7 [4, 43, 44, 45, 46, 47, 48, 49, 50, 51, 52, 53, 54, 55, 56] [57]) [4, 43, 44, 45, 46, 47, 48, 49, 50, 51, 52, 53, 54, 55, 56] fr H = evTale (some (58, [], [(57, (.pick (.op (.bin .gtr (.t 0) (.c (.s (.int .i64 0)))) [(.t 3), (.c (.s (.int .i64 0)))]) (.pick (.pick (.op (.bin .geq (.t 0) (.c (.s (.int .u8 48)))) [(.t 4), (.c (.s (.int .u8 48)))]) (.op (.bin .leq (.t 0) (.c (.s (.int .u8 57)))) [(.t 4), (.c (.s (.int .u8 57)))]) (.c (.s (.bool false)))) (.c (.s (.bool true))) (.op (.bin .eql (.t 0) (.c (.s (.int .u8 46)))) [(.t 4), (.c (.s (.int .u8 46)))])) (.c (.s (.bool false)))))])) [4, 43, 44, 45, 46, 47, 48, 49, 50, 51, 52, 53, 54, 55, 56] fr H := tale_row (items := [.tt 3, .sub 0 [0] [], .sub 0 [0] [], .sub 0 [1, 0, 0, 0] [46], .sub 0 [1, 0, 0] [46], .sub 0 [1, 0, 0] [46], .sub 0 [1, 0, 1, 0] [46, 49], .sub 0 [1, 0, 1] [46, 49], .sub 0 [1, 0] [46], .sub 0 [1, 0] [46], .sub 0 [1, 2, 0] [46, 53], .sub 0 [1, 2] [46, 53], .sub 0 [1] [46], .sub 0 [] []]) (by kernel_rfl) fr H
def s_gnomonref05_Is_r8 : List AOper := [
  ⟨some 2, (.move (.c (.s (.bool false)))), none⟩]
theorem s_gnomonref05_Is_r8_tale (fr : List V) (H : Heap) : evTale (symAll s_gnomonref05_Is_r8 [0, 3, 57] [2]) [0, 3, 57] fr H = evTale (some (3, [], [(2, (.c (.s (.bool false))))])) [0, 3, 57] fr H := tale_row (items := [.cc (.s (.bool false))]) (by kernel_rfl) fr H
def s_gnomonref05_Is_r9 : List AOper := [
  ⟨some 21, (.move (.t 3)), none⟩,
  ⟨some 22, (.bin .add (.t 21) (.c (.s (.int .i64 1)))), none⟩,
  ⟨some 3, (.move (.t 22)), none⟩]
theorem s_gnomonref05_Is_r9_tale (fr : List V) (H : Heap) : evTale (symAll s_gnomonref05_Is_r9 [4, 21, 22, 43, 57] [3]) [4, 21, 22, 43, 57] fr H = evTale (some (23, [], [(3, (.op (.bin .add (.t 0) (.c (.s (.int .i64 1)))) [(.t 3), (.c (.s (.int .i64 1)))]))])) [4, 21, 22, 43, 57] fr H := tale_row (items := [.tt 3, .sub 0 [] [], .sub 0 [] []]) (by kernel_rfl) fr H
def s_gnomonref05_Is_l0_b : ACode :=
  (.seq (.seq (.regionE s_gnomonref05_Is_r4 [17, 18, 19] [20])
  (.cond (.t 20)
  .skip
  (.exit 0)))
  (.seq (.block 1
  (.seq (.regionE s_gnomonref05_Is_r5 [20, 23, 24, 25] [4])
  (.seq (.seq (.regionE s_gnomonref05_Is_r6 [26, 27, 28, 29, 30, 31, 32, 33, 34, 35, 36, 37, 38, 39, 40, 41, 42] [43])
  (.cond (.t 43)
  (.exit 1)
  .skip))
  (.seq (.seq (.regionE s_gnomonref05_Is_r7 [4, 43, 44, 45, 46, 47, 48, 49, 50, 51, 52, 53, 54, 55, 56] [57])
  (.cond (.t 57)
  (.exit 1)
  .skip))
  (.seq (.regionE s_gnomonref05_Is_r8 [0, 3, 57] [2])
  .ret)))))
  (.regionE s_gnomonref05_Is_r9 [4, 21, 22, 43, 57] [3])))
def s_gnomonref05_Is_l0 : ACode := s_gnomonref05_Is_l0_b
theorem s_gnomonref05_Is_l0_ev (call : CallF) (it : IterF) (base : Nat) (fr : List V) (H : Heap) : evC call it base s_gnomonref05_Is_l0 fr H = evC call it base s_gnomonref05_Is_l0_b fr H := rfl
def s_gnomonref05_Is_r10 : List AOper := [
  ⟨some 2, (.move (.c (.s (.bool true)))), none⟩]
theorem s_gnomonref05_Is_r10_tale (fr : List V) (H : Heap) : evTale (symAll s_gnomonref05_Is_r10 [0, 3, 20] [2]) [0, 3, 20] fr H = evTale (some (3, [], [(2, (.c (.s (.bool true))))])) [0, 3, 20] fr H := tale_row (items := [.cc (.s (.bool true))]) (by kernel_rfl) fr H
def s_gnomonref05_Is : ACFun := { ntmps := 58, results := [(.tmp 2)], body :=
  (.seq (.regionE s_gnomonref05_Is_r0 s_gnomonref05_Is_r0_k [])
  (.seq (.seq (.regionE s_gnomonref05_Is_r1 [5, 6, 7, 8, 9, 10, 11, 12, 13, 14, 15] [16])
  (.cond (.t 16)
  (.seq (.regionE s_gnomonref05_Is_r2 [0, 16] [2])
  .ret)
  .skip))
  (.seq (.seq (.regionE s_gnomonref05_Is_r3 [16] [3])
  (.block 0
  (.loop [] s_gnomonref05_Is_l0)))
  (.seq (.regionE s_gnomonref05_Is_r10 [0, 3, 20] [2])
  .ret)))) }
abbrev k_gnomonlaw05_checks : Nat := 9
def CS0 : Nat → Option CFun
  | 3 => some (.code s_gnomonlaw05_NamesNames)
  | 7 => some (.code s_names_Is)
  | 8 => some (.code s_gnomonref05_Is)
  | _ => none
theorem CS0_3 : compK Try.prog (fun _ => false) 3 = some (false, s_gnomonlaw05_NamesNames.ntmps, s_gnomonlaw05_NamesNames.results, s_gnomonlaw05_NamesNames.body.bare) := by kernel_rfl
theorem CS0_7 : compK Try.prog (fun _ => false) 7 = some (false, s_names_Is.ntmps, s_names_Is.results, s_names_Is.body.bare) := by kernel_rfl
theorem CS0_8 : compK Try.prog (fun _ => false) 8 = some (false, s_gnomonref05_Is.ntmps, s_gnomonref05_Is.results, s_gnomonref05_Is.body.bare) := by kernel_rfl
theorem CS0_ok : ∀ k c, CS0 k = some c → FunOk Try.prog (fun _ => false) k c := by
  intro k c h
  unfold CS0 at h
  split at h
  · cases h; exact funOk_of CS0_3
  · cases h; exact funOk_of CS0_7
  · cases h; exact funOk_of CS0_8
  · cases h

end Go.Proofs.YtamlbkalopefgaaR
