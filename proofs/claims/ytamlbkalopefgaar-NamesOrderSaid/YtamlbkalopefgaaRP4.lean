/- Texts of the proof: NmS2, NmS3, NamA2, NmF1, NamA3, NamP1, NamP2, NamSh, NamB1. -/
import Derived.Test.YtamlbkalopefgaaRP0
import Derived.Test.YtamlbkalopefgaaRP1
import Derived.Test.YtamlbkalopefgaaRP2
import Derived.Test.YtamlbkalopefgaaRP3
set_option linter.all false
set_option maxRecDepth 100000
namespace Go.Proofs.YtamlbkalopefgaaR
open Go.AM
abbrev k_f23:Nat:=23
def K23_0:List Nat:=[1,3,4,5,6,7,8,9,10,11,12,13,14,15,16,17,18,19,20,21,22,23,24,25,26,27,28,29,30,31,32,33,34,35,36,37,38,39,40,41,42,43,44,45,46,47,48,49,50,51,52,53,54,55,56,57,58,59,60,61,62,63,64,65,66,67,68,69,70,71,72,73,74,75,76,77,78,79,80,81,82,83,84,85,86,87,88,89,90,91,92,93,94,95,96,97,98,99,100,101,102,103,104,105,106,107,108,109,110,111,112,113,114,115,116,117,118,119,120,121,122,123,124,125,126,127,128,129,130,131,132,133,134,135,136,137,138,139]
def A23_0_0:=hK K23_0 0
def A23_0_2:=hK K23_0 2
theorem A23_0_3:K23_0.contains 3=true:=by kernel_rfl
def R23_0t1:List AOper:=[⟨some 3,.move (.c (.s (.bool false))),none⟩]
def R23_0p0:List AOper:=[⟨some 2,.alloc [(.s (.int .i64 0)),(.s (.int .i64 0)),(.s (.int .i64 0))],none⟩]
def R23_0:List AOper:=R23_0p0 ++ R23_0t1
def K23_0p0:List Nat:=[1,3,4,5,6,7,8,9,10,11,12,13,14,15,16,17,18,19,20,21,22,23,24,25,26,27,28,29,30,31,32,33,34,35,36,37,38,39,40,41,42,43,44,45,46,47,48,49,50,51,52,53,54,55,56,57,58,59,60,61,62,63,64,65,66,67,68,69,70,71,72,73,74,75,76,77,78,79,80,81,82,83,84,85,86,87,88,89,90,91,92,93,94,95,96,97,98,99,100,101,102,103,104,105,106,107,108,109,110,111,112,113,114,115,116,117,118,119,120,121,122,123,124,125,126,127,128,129,130,131,132,133,134,135,136,137,138,139]
def A23_0p0_0:=hK K23_0p0 0
def A23_0p0_2:=hK K23_0p0 2
theorem A23_0p0_3:K23_0p0.contains 3=true:=by kernel_rfl
theorem X23_0 (call:CallF) (it:IterF) (base:Nat) (f:List V) (H:Heap):evC call it base (.region R23_0 [] K23_0) f H=thenC call it base (.region R23_0t1 [] K23_0) (opsC [] R23_0p0 K23_0p0 (evOps call base [⟨some 2,.alloc [(.s (.int .i64 0)),(.s (.int .i64 0)),(.s (.int .i64 0))],none⟩] f H)):=(row_op call it base R23_0p0 R23_0t1 (kc:=K23_0p0) (by kernel_rfl) f H).trans (by rw [row_ops];rfl)
def T23_0t1:=hT R23_0t1 K23_0 [] 4 [] [] [.cc (.s (.bool false))]
def X23_0t1:=hL R23_0t1 K23_0 []
def R23_1:List AOper:=[
 ⟨some 12,.move (.t 0),none⟩,
 ⟨some 13,.nilCheck (.t 12),none⟩,
 ⟨some 14,.fieldAddr 0 (.t 13),none⟩,
 ⟨some 15,.fieldAddr 0 (.t 14),none⟩,
 ⟨some 16,.load false 1 (.t 15),none⟩,
 ⟨some 17,.lenS .s (.t 16),none⟩,
 ⟨some 18,.move (.c (.s (.int .i64 0))),none⟩]
def T23_1:=hT R23_1 [12,13,14,15] [16,17,18] 19 [] [(16,(.op (.load false 1 (.t 0)) [(.op (.fieldAddr 0 (.t 0)) [(.op (.fieldAddr 0 (.t 0)) [(.op (.nilCheck (.t 0)) [(.t 0)])])])])),(17,(.op (.lenS .s (.t 0)) [(.op (.load false 1 (.t 0)) [(.op (.fieldAddr 0 (.t 0)) [(.op (.fieldAddr 0 (.t 0)) [(.op (.nilCheck (.t 0)) [(.t 0)])])])])])),(18,(.c (.s (.int .i64 0))))] [.tt 0,.sub 0 [0,0,0] [],.sub 0 [0,0] [],.sub 0 [0] [],.sub 0 [] [],.sub 1 [] [],.cc (.s (.int .i64 0))]
def R23_2:List AOper:=[
 ⟨some 19,.bin .lss (.t 18) (.t 17),none⟩]
def T23_2:=hT R23_2 [] [19] 20 [] [(19,(.op (.bin .lss (.t 0) (.t 1)) [(.t 18),(.t 17)]))] [.sub 0 [] []]
def R23_3t3:List AOper:=[⟨none,.store 3 (.t 5) (.t 22),none⟩]
def R23_3p2:List AOper:=[⟨some 4,.move (.t 20),none⟩]
def R23_3t2:List AOper:=R23_3p2 ++ R23_3t3
def R23_3p1:List AOper:=[⟨some 5,.alloc [(.s (.string ⟨#[]⟩)),(.s (.slice none 0 0)),(.s (.slice none 0 0))],none⟩]
def R23_3t1:List AOper:=R23_3p1 ++ R23_3t2
def R23_3p0:List AOper:=[⟨some 20,.move (.t 18),none⟩,⟨some 21,.indexAddr 3 (.t 16) (.t 18),none⟩,⟨some 22,.load true 3 (.t 21),none⟩]
def R23_3:List AOper:=R23_3p0 ++ R23_3t1
def T23_3p0:=hT R23_3p0 [19,21] [20,22] 23 [] [(20,(.t 18)),(22,(.op (.load true 3 (.t 0)) [(.op (.indexAddr 3 (.t 0) (.t 1)) [(.t 16),(.t 18)])]))] [.tt 18,.sub 1 [0] [],.sub 1 [] []]
def X23_3:=hS R23_3 R23_3p0 R23_3t1 [19,21] [20,22] [19,20,21,22]
def X23_3t1:=hO R23_3t1 R23_3p1 R23_3t2 [] [19,20,21,22] [⟨some 5,.alloc [(.s (.string ⟨#[]⟩)),(.s (.slice none 0 0)),(.s (.slice none 0 0))],none⟩]
def T23_3p2:=hT R23_3p2 [20] [4] 5 [] [(4,(.t 20))] [.tt 20]
def X23_3t2:=hS R23_3t2 R23_3p2 R23_3t3 [20] [4] [19,20,21,22]
def X23_3t3:=hX R23_3t3 [19,20,21,22] [⟨none,.store 3 (.t 5) (.t 22),none⟩]
def R23_4t6:List AOper:=[⟨some 31,.pick (.t 27) (.c (.s (.bool true))) (.t 30),none⟩]
def R23_4p5:List AOper:=[⟨some 30,.call (.c (.fn 39 [] [])) [(.t 29),(.c (.fn 40 [] []))],some (27,false)⟩]
def R23_4t5:List AOper:=R23_4p5 ++ R23_4t6
def R23_4p4:List AOper:=[⟨some 29,.load false 1 (.t 28),some (27,false)⟩]
def R23_4t4:List AOper:=R23_4p4 ++ R23_4t5
def R23_4p3:List AOper:=[⟨some 28,.fieldAddr 1 (.t 5),some (27,false)⟩]
def R23_4t3:List AOper:=R23_4p3 ++ R23_4t4
def R23_4p2:List AOper:=[⟨some 26,.un .not (.t 25),none⟩,⟨some 27,.move (.t 26),none⟩]
def R23_4t2:List AOper:=R23_4p2 ++ R23_4t3
def R23_4p1:List AOper:=[⟨some 25,.call (.c (.fn 7 [] [])) [(.t 24)],none⟩]
def R23_4t1:List AOper:=R23_4p1 ++ R23_4t2
def R23_4p0:List AOper:=[⟨some 23,.fieldAddr 0 (.t 5),none⟩,⟨some 24,.load false 1 (.t 23),none⟩]
def R23_4:List AOper:=R23_4p0 ++ R23_4t1
def T23_4p0:=hT R23_4p0 [23] [24] 25 [] [(24,(.op (.load false 1 (.t 0)) [(.op (.fieldAddr 0 (.t 0)) [(.t 5)])]))] [.sub 0 [0] [],.sub 0 [] []]
def X23_4:=hS R23_4 R23_4p0 R23_4t1 [23] [24] [23,24,25,26,27,28,29,30]
def X23_4t1:=hO R23_4t1 R23_4p1 R23_4t2 [24] [23,24,25,26,27,28,29,30] [⟨some 25,.call (.c (.fn 7 [] [])) [(.t 24)],none⟩]
def T23_4p2:=hT R23_4p2 [25,26] [27] 28 [] [(27,(.op (.un .not (.t 0)) [(.t 25)]))] [.sub 0 [] [],.sub 0 [] []]
def X23_4t2:=hS R23_4t2 R23_4p2 R23_4t3 [25,26] [27] [23,24,25,26,27,28,29,30]
def X23_4t3:=hO R23_4t3 R23_4p3 R23_4t4 [] [23,24,25,26,27,28,29,30] [⟨some 28,.fieldAddr 1 (.t 5),some (27,false)⟩]
def X23_4t4:=hO R23_4t4 R23_4p4 R23_4t5 [28] [23,24,25,26,27,28,29,30] [⟨some 29,.load false 1 (.t 28),some (27,false)⟩]
def X23_4t5:=hO R23_4t5 R23_4p5 R23_4t6 [29] [23,24,25,26,27,28,29,30] [⟨some 30,.call (.c (.fn 39 [] [])) [(.t 29),(.c (.fn 40 [] []))],some (27,false)⟩]
def T23_4t6:=hT R23_4t6 [23,24,25,26,27,28,29,30] [31] 32 [] [(31,(.pick (.t 27) (.c (.s (.bool true))) (.t 30)))] [.sub 0 [] []]
def X23_4t6:=hL R23_4t6 [23,24,25,26,27,28,29,30] [31]
def R23_5t2:List AOper:=[⟨some 3,.move (.c (.s (.bool true))),none⟩]
def R23_5p1:List AOper:=[⟨none,.store 3 (.t 2) (.t 33),none⟩]
def R23_5t1:List AOper:=R23_5p1 ++ R23_5t2
def R23_5p0:List AOper:=[⟨some 32,.move (.t 4),none⟩,⟨some 33,.build [(.s (.int .i64 0)),(.s (.int .i64 0)),(.s (.int .i64 0))] [(0,1),(1,1),(2,1)] [(0,(.t 32))],none⟩]
def R23_5:List AOper:=R23_5p0 ++ R23_5t1
def T23_5p0:=hT R23_5p0 [0,4,5,16,17,18,31,32] [33] 34 [] [(33,(.op (.build [(.s (.int .i64 0)),(.s (.int .i64 0)),(.s (.int .i64 0))] [(0,1),(1,1),(2,1)] [(0,(.t 0))]) [(.t 4)]))] [.tt 4,.sub 0 [] []]
def X23_5:=hS R23_5 R23_5p0 R23_5t1 [0,4,5,16,17,18,31,32] [33] [0,4,5,16,17,18,31,32,33]
def X23_5t1:=hO R23_5t1 R23_5p1 R23_5t2 [33] [0,4,5,16,17,18,31,32,33] [⟨none,.store 3 (.t 2) (.t 33),none⟩]
def T23_5t2:=hT R23_5t2 [0,4,5,16,17,18,31,32,33] [3] 4 [] [(3,(.c (.s (.bool true))))] [.cc (.s (.bool true))]
def X23_5t2:=hL R23_5t2 [0,4,5,16,17,18,31,32,33] [3]
def R23_6:List AOper:=[
 ⟨some 34,.fieldAddr 2 (.t 5),none⟩,
 ⟨some 35,.load false 1 (.t 34),none⟩,
 ⟨some 36,.lenS .s (.t 35),none⟩,
 ⟨some 37,.move (.c (.s (.int .i64 0))),none⟩]
def T23_6:=hT R23_6 [5,31,34] [35,36,37] 38 [] [(35,(.op (.load false 1 (.t 0)) [(.op (.fieldAddr 2 (.t 0)) [(.t 5)])])),(36,(.op (.lenS .s (.t 0)) [(.op (.load false 1 (.t 0)) [(.op (.fieldAddr 2 (.t 0)) [(.t 5)])])])),(37,(.c (.s (.int .i64 0))))] [.sub 0 [0] [],.sub 0 [] [],.sub 1 [] [],.cc (.s (.int .i64 0))]
def R23_7:List AOper:=[
 ⟨some 38,.bin .lss (.t 37) (.t 36),none⟩]
def T23_7:=hT R23_7 [] [38] 39 [] [(38,(.op (.bin .lss (.t 0) (.t 1)) [(.t 37),(.t 36)]))] [.sub 0 [] []]
def R23_8t3:List AOper:=[⟨none,.store 2 (.t 7) (.t 41),none⟩]
def R23_8p2:List AOper:=[⟨some 6,.move (.t 39),none⟩]
def R23_8t2:List AOper:=R23_8p2 ++ R23_8t3
def R23_8p1:List AOper:=[⟨some 7,.alloc [(.s (.string ⟨#[]⟩)),(.s (.slice none 0 0))],none⟩]
def R23_8t1:List AOper:=R23_8p1 ++ R23_8t2
def R23_8p0:List AOper:=[⟨some 39,.move (.t 37),none⟩,⟨some 40,.indexAddr 2 (.t 35) (.t 37),none⟩,⟨some 41,.load true 2 (.t 40),none⟩]
def R23_8:List AOper:=R23_8p0 ++ R23_8t1
def T23_8p0:=hT R23_8p0 [38,40] [39,41] 42 [] [(39,(.t 37)),(41,(.op (.load true 2 (.t 0)) [(.op (.indexAddr 2 (.t 0) (.t 1)) [(.t 35),(.t 37)])]))] [.tt 37,.sub 1 [0] [],.sub 1 [] []]
def X23_8:=hS R23_8 R23_8p0 R23_8t1 [38,40] [39,41] [38,39,40,41]
def X23_8t1:=hO R23_8t1 R23_8p1 R23_8t2 [] [38,39,40,41] [⟨some 7,.alloc [(.s (.string ⟨#[]⟩)),(.s (.slice none 0 0))],none⟩]
def T23_8p2:=hT R23_8p2 [39] [6] 7 [] [(6,(.t 39))] [.tt 39]
def X23_8t2:=hS R23_8t2 R23_8p2 R23_8t3 [39] [6] [38,39,40,41]
def X23_8t3:=hX R23_8t3 [38,39,40,41] [⟨none,.store 2 (.t 7) (.t 41),none⟩]
def R23_9t2:List AOper:=[⟨some 45,.un .not (.t 44),none⟩]
def R23_9p1:List AOper:=[⟨some 44,.call (.c (.fn 7 [] [])) [(.t 43)],none⟩]
def R23_9t1:List AOper:=R23_9p1 ++ R23_9t2
def R23_9p0:List AOper:=[⟨some 42,.fieldAddr 0 (.t 7),none⟩,⟨some 43,.load false 1 (.t 42),none⟩]
def R23_9:List AOper:=R23_9p0 ++ R23_9t1
def T23_9p0:=hT R23_9p0 [42] [43] 44 [] [(43,(.op (.load false 1 (.t 0)) [(.op (.fieldAddr 0 (.t 0)) [(.t 7)])]))] [.sub 0 [0] [],.sub 0 [] []]
def X23_9:=hS R23_9 R23_9p0 R23_9t1 [42] [43] [42,43,44]
def X23_9t1:=hO R23_9t1 R23_9p1 R23_9t2 [43] [42,43,44] [⟨some 44,.call (.c (.fn 7 [] [])) [(.t 43)],none⟩]
def T23_9t2:=hT R23_9t2 [42,43,44] [45] 46 [] [(45,(.op (.un .not (.t 0)) [(.t 44)]))] [.sub 0 [] []]
def X23_9t2:=hL R23_9t2 [42,43,44] [45]
def R23_10t2:List AOper:=[⟨some 3,.move (.c (.s (.bool true))),none⟩]
def R23_10p1:List AOper:=[⟨none,.store 3 (.t 2) (.t 48),none⟩]
def R23_10t1:List AOper:=R23_10p1 ++ R23_10t2
def R23_10p0:List AOper:=[⟨some 46,.move (.t 4),none⟩,⟨some 47,.move (.t 6),none⟩,⟨some 48,.build [(.s (.int .i64 0)),(.s (.int .i64 0)),(.s (.int .i64 0))] [(0,1),(1,1),(2,1)] [(0,(.t 46)),(1,(.t 47))],none⟩]
def R23_10:List AOper:=R23_10p0 ++ R23_10t1
def T23_10p0:=hT R23_10p0 [0,4,6,7,16,17,18,35,36,37,45,46,47] [48] 49 [] [(48,(.op (.build [(.s (.int .i64 0)),(.s (.int .i64 0)),(.s (.int .i64 0))] [(0,1),(1,1),(2,1)] [(0,(.t 0)),(1,(.t 1))]) [(.t 4),(.t 6)]))] [.tt 4,.tt 6,.sub 0 [] []]
def X23_10:=hS R23_10 R23_10p0 R23_10t1 [0,4,6,7,16,17,18,35,36,37,45,46,47] [48] [0,4,6,7,16,17,18,35,36,37,45,46,47,48]
def X23_10t1:=hO R23_10t1 R23_10p1 R23_10t2 [48] [0,4,6,7,16,17,18,35,36,37,45,46,47,48] [⟨none,.store 3 (.t 2) (.t 48),none⟩]
def T23_10t2:=hT R23_10t2 [0,4,6,7,16,17,18,35,36,37,45,46,47,48] [3] 4 [] [(3,(.c (.s (.bool true))))] [.cc (.s (.bool true))]
def X23_10t2:=hL R23_10t2 [0,4,6,7,16,17,18,35,36,37,45,46,47,48] [3]
def R23_11:List AOper:=[
 ⟨some 49,.fieldAddr 1 (.t 7),none⟩,
 ⟨some 50,.load false 1 (.t 49),none⟩,
 ⟨some 51,.lenS .s (.t 50),none⟩,
 ⟨some 52,.move (.c (.s (.int .i64 0))),none⟩]
def T23_11:=hT R23_11 [7,45,49] [50,51,52] 53 [] [(50,(.op (.load false 1 (.t 0)) [(.op (.fieldAddr 1 (.t 0)) [(.t 7)])])),(51,(.op (.lenS .s (.t 0)) [(.op (.load false 1 (.t 0)) [(.op (.fieldAddr 1 (.t 0)) [(.t 7)])])])),(52,(.c (.s (.int .i64 0))))] [.sub 0 [0] [],.sub 0 [] [],.sub 1 [] [],.cc (.s (.int .i64 0))]
def R23_12:List AOper:=[
 ⟨some 53,.bin .lss (.t 52) (.t 51),none⟩]
def T23_12:=hT R23_12 [] [53] 54 [] [(53,(.op (.bin .lss (.t 0) (.t 1)) [(.t 52),(.t 51)]))] [.sub 0 [] []]
def R23_13t3:List AOper:=[⟨none,.store 8 (.t 9) (.t 56),none⟩]
def R23_13p2:List AOper:=[⟨some 8,.move (.t 54),none⟩]
def R23_13t2:List AOper:=R23_13p2 ++ R23_13t3
def R23_13p1:List AOper:=[⟨some 9,.alloc [(.s (.int .u8 0)),(.s (.string ⟨#[]⟩)),(.s (.string ⟨#[]⟩)),(.s (.string ⟨#[]⟩)),(.s (.int .i64 0)),(.s (.string ⟨#[]⟩)),(.s (.slice none 0 0)),(.s (.slice none 0 0))],none⟩]
def R23_13t1:List AOper:=R23_13p1 ++ R23_13t2
def R23_13p0:List AOper:=[⟨some 54,.move (.t 52),none⟩,⟨some 55,.indexAddr 8 (.t 50) (.t 52),none⟩,⟨some 56,.load true 8 (.t 55),none⟩]
def R23_13:List AOper:=R23_13p0 ++ R23_13t1
def T23_13p0:=hT R23_13p0 [53,55] [54,56] 57 [] [(54,(.t 52)),(56,(.op (.load true 8 (.t 0)) [(.op (.indexAddr 8 (.t 0) (.t 1)) [(.t 50),(.t 52)])]))] [.tt 52,.sub 1 [0] [],.sub 1 [] []]
def X23_13:=hS R23_13 R23_13p0 R23_13t1 [53,55] [54,56] [53,54,55,56]
def X23_13t1:=hO R23_13t1 R23_13p1 R23_13t2 [] [53,54,55,56] [⟨some 9,.alloc [(.s (.int .u8 0)),(.s (.string ⟨#[]⟩)),(.s (.string ⟨#[]⟩)),(.s (.string ⟨#[]⟩)),(.s (.int .i64 0)),(.s (.string ⟨#[]⟩)),(.s (.slice none 0 0)),(.s (.slice none 0 0))],none⟩]
def T23_13p2:=hT R23_13p2 [54] [8] 9 [] [(8,(.t 54))] [.tt 54]
def X23_13t2:=hS R23_13t2 R23_13p2 R23_13t3 [54] [8] [53,54,55,56]
def X23_13t3:=hX R23_13t3 [53,54,55,56] [⟨none,.store 8 (.t 9) (.t 56),none⟩]
def R23_14t2:List AOper:=[⟨none,.store 7 (.t 10) (.t 63),none⟩]
def R23_14p1:List AOper:=[⟨some 10,.alloc [(.s (.bool false)),(.s (.bool false)),(.s (.bool false)),(.s (.bool false)),(.s (.bool false)),(.s (.bool false)),(.s (.bool false))],none⟩]
def R23_14t1:List AOper:=R23_14p1 ++ R23_14t2
def R23_14p0:List AOper:=[⟨some 57,.move (.t 0),none⟩,⟨some 58,.nilCheck (.t 57),none⟩,⟨some 59,.fieldAddr 1 (.t 58),none⟩,⟨some 60,.load false 1 (.t 59),none⟩,⟨some 61,.fieldAddr 0 (.t 9),none⟩,⟨some 62,.load false 1 (.t 61),none⟩,⟨some 63,.mapGet (.int .u8) (.agg [(.s (.bool false)),(.s (.bool false)),(.s (.bool false)),(.s (.bool false)),(.s (.bool false)),(.s (.bool false)),(.s (.bool false))]) (.t 60) (.t 62) false,none⟩]
def R23_14:List AOper:=R23_14p0 ++ R23_14t1
def T23_14p0:=hT R23_14p0 [57,58,59,60,61,62] [63] 64 [] [(63,(.op (.mapGet (.int .u8) (.agg [(.s (.bool false)),(.s (.bool false)),(.s (.bool false)),(.s (.bool false)),(.s (.bool false)),(.s (.bool false)),(.s (.bool false))]) (.t 0) (.t 1) false) [(.op (.load false 1 (.t 0)) [(.op (.fieldAddr 1 (.t 0)) [(.op (.nilCheck (.t 0)) [(.t 0)])])]),(.op (.load false 1 (.t 0)) [(.op (.fieldAddr 0 (.t 0)) [(.t 9)])])]))] [.tt 0,.sub 0 [0,0,0] [],.sub 0 [0,0] [],.sub 0 [0] [],.sub 0 [1,0] [],.sub 0 [1] [],.sub 0 [] []]
def X23_14:=hS R23_14 R23_14p0 R23_14t1 [57,58,59,60,61,62] [63] [57,58,59,60,61,62,63]
def X23_14t1:=hO R23_14t1 R23_14p1 R23_14t2 [] [57,58,59,60,61,62,63] [⟨some 10,.alloc [(.s (.bool false)),(.s (.bool false)),(.s (.bool false)),(.s (.bool false)),(.s (.bool false)),(.s (.bool false)),(.s (.bool false))],none⟩]
def X23_14t2:=hX R23_14t2 [57,58,59,60,61,62,63] [⟨none,.store 7 (.t 10) (.t 63),none⟩]
def R23_15t29:List AOper:=[⟨some 100,.pick (.t 95) (.t 99) (.c (.s (.bool false))),some (92,false)⟩,⟨some 101,.pick (.t 92) (.c (.s (.bool true))) (.t 100),none⟩,⟨some 11,.move (.t 101),none⟩]
def R23_15p28:List AOper:=[⟨some 99,.call (.c (.fn 41 [] [])) [(.c (.s (.bool true))),(.t 98)],some (95,true)⟩]
def R23_15t28:List AOper:=R23_15p28 ++ R23_15t29
def R23_15p27:List AOper:=[⟨some 98,.buildSl 1 1 [(.s (.string ⟨#[]⟩))] [(0,(.t 97))],some (95,true)⟩]
def R23_15t27:List AOper:=R23_15p27 ++ R23_15t28
def R23_15p26:List AOper:=[⟨some 97,.load false 1 (.t 96),some (95,true)⟩]
def R23_15t26:List AOper:=R23_15p26 ++ R23_15t27
def R23_15p25:List AOper:=[⟨some 96,.fieldAddr 3 (.t 9),some (95,true)⟩]
def R23_15t25:List AOper:=R23_15p25 ++ R23_15t26
def R23_15p24:List AOper:=[⟨some 95,.move (.t 94),some (92,false)⟩]
def R23_15t24:List AOper:=R23_15p24 ++ R23_15t25
def R23_15p23:List AOper:=[⟨some 94,.load false 1 (.t 93),some (92,false)⟩]
def R23_15t23:List AOper:=R23_15p23 ++ R23_15t24
def R23_15p22:List AOper:=[⟨some 93,.fieldAddr 2 (.t 10),some (92,false)⟩]
def R23_15t22:List AOper:=R23_15p22 ++ R23_15t23
def R23_15p21:List AOper:=[⟨some 90,.pick (.t 85) (.t 89) (.c (.s (.bool false))),some (82,false)⟩,⟨some 91,.pick (.t 82) (.c (.s (.bool true))) (.t 90),none⟩,⟨some 92,.move (.t 91),none⟩]
def R23_15t21:List AOper:=R23_15p21 ++ R23_15t22
def R23_15p20:List AOper:=[⟨some 89,.call (.c (.fn 41 [] [])) [(.c (.s (.bool true))),(.t 88)],some (85,true)⟩]
def R23_15t20:List AOper:=R23_15p20 ++ R23_15t21
def R23_15p19:List AOper:=[⟨some 88,.buildSl 1 1 [(.s (.string ⟨#[]⟩))] [(0,(.t 87))],some (85,true)⟩]
def R23_15t19:List AOper:=R23_15p19 ++ R23_15t20
def R23_15p18:List AOper:=[⟨some 87,.load false 1 (.t 86),some (85,true)⟩]
def R23_15t18:List AOper:=R23_15p18 ++ R23_15t19
def R23_15p17:List AOper:=[⟨some 86,.fieldAddr 2 (.t 9),some (85,true)⟩]
def R23_15t17:List AOper:=R23_15p17 ++ R23_15t18
def R23_15p16:List AOper:=[⟨some 85,.move (.t 84),some (82,false)⟩]
def R23_15t16:List AOper:=R23_15p16 ++ R23_15t17
def R23_15p15:List AOper:=[⟨some 84,.load false 1 (.t 83),some (82,false)⟩]
def R23_15t15:List AOper:=R23_15p15 ++ R23_15t16
def R23_15p14:List AOper:=[⟨some 83,.fieldAddr 1 (.t 10),some (82,false)⟩]
def R23_15t14:List AOper:=R23_15p14 ++ R23_15t15
def R23_15p13:List AOper:=[⟨some 80,.pick (.t 75) (.t 79) (.c (.s (.bool false))),some (72,false)⟩,⟨some 81,.pick (.t 72) (.c (.s (.bool true))) (.t 80),none⟩,⟨some 82,.move (.t 81),none⟩]
def R23_15t13:List AOper:=R23_15p13 ++ R23_15t14
def R23_15p12:List AOper:=[⟨some 79,.call (.c (.fn 41 [] [])) [(.c (.s (.bool false))),(.t 78)],some (75,true)⟩]
def R23_15t12:List AOper:=R23_15p12 ++ R23_15t13
def R23_15p11:List AOper:=[⟨some 78,.buildSl 1 1 [(.s (.string ⟨#[]⟩))] [(0,(.t 77))],some (75,true)⟩]
def R23_15t11:List AOper:=R23_15p11 ++ R23_15t12
def R23_15p10:List AOper:=[⟨some 77,.load false 1 (.t 76),some (75,true)⟩]
def R23_15t10:List AOper:=R23_15p10 ++ R23_15t11
def R23_15p9:List AOper:=[⟨some 76,.fieldAddr 5 (.t 9),some (75,true)⟩]
def R23_15t9:List AOper:=R23_15p9 ++ R23_15t10
def R23_15p8:List AOper:=[⟨some 75,.move (.t 74),some (72,false)⟩]
def R23_15t8:List AOper:=R23_15p8 ++ R23_15t9
def R23_15p7:List AOper:=[⟨some 74,.load false 1 (.t 73),some (72,false)⟩]
def R23_15t7:List AOper:=R23_15p7 ++ R23_15t8
def R23_15p6:List AOper:=[⟨some 73,.fieldAddr 4 (.t 10),some (72,false)⟩]
def R23_15t6:List AOper:=R23_15p6 ++ R23_15t7
def R23_15p5:List AOper:=[⟨some 71,.pick (.t 66) (.t 70) (.c (.s (.bool false))),none⟩,⟨some 72,.move (.t 71),none⟩]
def R23_15t5:List AOper:=R23_15p5 ++ R23_15t6
def R23_15p4:List AOper:=[⟨some 70,.call (.c (.fn 41 [] [])) [(.c (.s (.bool false))),(.t 69)],some (66,true)⟩]
def R23_15t4:List AOper:=R23_15p4 ++ R23_15t5
def R23_15p3:List AOper:=[⟨some 69,.buildSl 1 1 [(.s (.string ⟨#[]⟩))] [(0,(.t 68))],some (66,true)⟩]
def R23_15t3:List AOper:=R23_15p3 ++ R23_15t4
def R23_15p2:List AOper:=[⟨some 68,.load false 1 (.t 67),some (66,true)⟩]
def R23_15t2:List AOper:=R23_15p2 ++ R23_15t3
def R23_15p1:List AOper:=[⟨some 67,.fieldAddr 1 (.t 9),some (66,true)⟩]
def R23_15t1:List AOper:=R23_15p1 ++ R23_15t2
def R23_15p0:List AOper:=[⟨some 64,.fieldAddr 0 (.t 10),none⟩,⟨some 65,.load false 1 (.t 64),none⟩,⟨some 66,.move (.t 65),none⟩]
def R23_15:List AOper:=R23_15p0 ++ R23_15t1
def T23_15p0:=hT R23_15p0 [64,65] [66] 67 [] [(66,(.op (.load false 1 (.t 0)) [(.op (.fieldAddr 0 (.t 0)) [(.t 10)])]))] [.sub 0 [0] [],.sub 0 [] [],.sub 0 [] []]
def X23_15:=hS R23_15 R23_15p0 R23_15t1 [64,65] [66] [64,65,66,67,68,69,70,71,72,73,74,75,76,77,78,79,80,81,82,83,84,85,86,87,88,89,90,91,92,93,94,95,96,97,98,99,100,101]
def X23_15t1:=hO R23_15t1 R23_15p1 R23_15t2 [] [64,65,66,67,68,69,70,71,72,73,74,75,76,77,78,79,80,81,82,83,84,85,86,87,88,89,90,91,92,93,94,95,96,97,98,99,100,101] [⟨some 67,.fieldAddr 1 (.t 9),some (66,true)⟩]
def X23_15t2:=hO R23_15t2 R23_15p2 R23_15t3 [67] [64,65,66,67,68,69,70,71,72,73,74,75,76,77,78,79,80,81,82,83,84,85,86,87,88,89,90,91,92,93,94,95,96,97,98,99,100,101] [⟨some 68,.load false 1 (.t 67),some (66,true)⟩]
def X23_15t3:=hO R23_15t3 R23_15p3 R23_15t4 [68] [64,65,66,67,68,69,70,71,72,73,74,75,76,77,78,79,80,81,82,83,84,85,86,87,88,89,90,91,92,93,94,95,96,97,98,99,100,101] [⟨some 69,.buildSl 1 1 [(.s (.string ⟨#[]⟩))] [(0,(.t 68))],some (66,true)⟩]
def X23_15t4:=hO R23_15t4 R23_15p4 R23_15t5 [69] [64,65,66,67,68,69,70,71,72,73,74,75,76,77,78,79,80,81,82,83,84,85,86,87,88,89,90,91,92,93,94,95,96,97,98,99,100,101] [⟨some 70,.call (.c (.fn 41 [] [])) [(.c (.s (.bool false))),(.t 69)],some (66,true)⟩]
def T23_15p5:=hT R23_15p5 [66,70,71] [72] 73 [] [(72,(.pick (.t 66) (.t 70) (.c (.s (.bool false)))))] [.sub 0 [] [],.sub 0 [] []]
def X23_15t5:=hS R23_15t5 R23_15p5 R23_15t6 [66,70,71] [72] [64,65,66,67,68,69,70,71,72,73,74,75,76,77,78,79,80,81,82,83,84,85,86,87,88,89,90,91,92,93,94,95,96,97,98,99,100,101]
def X23_15t6:=hO R23_15t6 R23_15p6 R23_15t7 [] [64,65,66,67,68,69,70,71,72,73,74,75,76,77,78,79,80,81,82,83,84,85,86,87,88,89,90,91,92,93,94,95,96,97,98,99,100,101] [⟨some 73,.fieldAddr 4 (.t 10),some (72,false)⟩]
def X23_15t7:=hO R23_15t7 R23_15p7 R23_15t8 [73] [64,65,66,67,68,69,70,71,72,73,74,75,76,77,78,79,80,81,82,83,84,85,86,87,88,89,90,91,92,93,94,95,96,97,98,99,100,101] [⟨some 74,.load false 1 (.t 73),some (72,false)⟩]
def X23_15t8:=hO R23_15t8 R23_15p8 R23_15t9 [74] [64,65,66,67,68,69,70,71,72,73,74,75,76,77,78,79,80,81,82,83,84,85,86,87,88,89,90,91,92,93,94,95,96,97,98,99,100,101] [⟨some 75,.move (.t 74),some (72,false)⟩]
def X23_15t9:=hO R23_15t9 R23_15p9 R23_15t10 [] [64,65,66,67,68,69,70,71,72,73,74,75,76,77,78,79,80,81,82,83,84,85,86,87,88,89,90,91,92,93,94,95,96,97,98,99,100,101] [⟨some 76,.fieldAddr 5 (.t 9),some (75,true)⟩]
def X23_15t10:=hO R23_15t10 R23_15p10 R23_15t11 [76] [64,65,66,67,68,69,70,71,72,73,74,75,76,77,78,79,80,81,82,83,84,85,86,87,88,89,90,91,92,93,94,95,96,97,98,99,100,101] [⟨some 77,.load false 1 (.t 76),some (75,true)⟩]
def X23_15t11:=hO R23_15t11 R23_15p11 R23_15t12 [77] [64,65,66,67,68,69,70,71,72,73,74,75,76,77,78,79,80,81,82,83,84,85,86,87,88,89,90,91,92,93,94,95,96,97,98,99,100,101] [⟨some 78,.buildSl 1 1 [(.s (.string ⟨#[]⟩))] [(0,(.t 77))],some (75,true)⟩]
def X23_15t12:=hO R23_15t12 R23_15p12 R23_15t13 [78] [64,65,66,67,68,69,70,71,72,73,74,75,76,77,78,79,80,81,82,83,84,85,86,87,88,89,90,91,92,93,94,95,96,97,98,99,100,101] [⟨some 79,.call (.c (.fn 41 [] [])) [(.c (.s (.bool false))),(.t 78)],some (75,true)⟩]
def T23_15p13:=hT R23_15p13 [72,75,79,80,81] [82] 83 [] [(82,(.pick (.t 72) (.c (.s (.bool true))) (.pick (.t 75) (.t 79) (.c (.s (.bool false))))))] [.sub 0 [2] [72],.sub 0 [] [],.sub 0 [] []]
def X23_15t13:=hS R23_15t13 R23_15p13 R23_15t14 [72,75,79,80,81] [82] [64,65,66,67,68,69,70,71,72,73,74,75,76,77,78,79,80,81,82,83,84,85,86,87,88,89,90,91,92,93,94,95,96,97,98,99,100,101]
def X23_15t14:=hO R23_15t14 R23_15p14 R23_15t15 [] [64,65,66,67,68,69,70,71,72,73,74,75,76,77,78,79,80,81,82,83,84,85,86,87,88,89,90,91,92,93,94,95,96,97,98,99,100,101] [⟨some 83,.fieldAddr 1 (.t 10),some (82,false)⟩]
def X23_15t15:=hO R23_15t15 R23_15p15 R23_15t16 [83] [64,65,66,67,68,69,70,71,72,73,74,75,76,77,78,79,80,81,82,83,84,85,86,87,88,89,90,91,92,93,94,95,96,97,98,99,100,101] [⟨some 84,.load false 1 (.t 83),some (82,false)⟩]
def X23_15t16:=hO R23_15t16 R23_15p16 R23_15t17 [84] [64,65,66,67,68,69,70,71,72,73,74,75,76,77,78,79,80,81,82,83,84,85,86,87,88,89,90,91,92,93,94,95,96,97,98,99,100,101] [⟨some 85,.move (.t 84),some (82,false)⟩]
def X23_15t17:=hO R23_15t17 R23_15p17 R23_15t18 [] [64,65,66,67,68,69,70,71,72,73,74,75,76,77,78,79,80,81,82,83,84,85,86,87,88,89,90,91,92,93,94,95,96,97,98,99,100,101] [⟨some 86,.fieldAddr 2 (.t 9),some (85,true)⟩]
def X23_15t18:=hO R23_15t18 R23_15p18 R23_15t19 [86] [64,65,66,67,68,69,70,71,72,73,74,75,76,77,78,79,80,81,82,83,84,85,86,87,88,89,90,91,92,93,94,95,96,97,98,99,100,101] [⟨some 87,.load false 1 (.t 86),some (85,true)⟩]
def X23_15t19:=hO R23_15t19 R23_15p19 R23_15t20 [87] [64,65,66,67,68,69,70,71,72,73,74,75,76,77,78,79,80,81,82,83,84,85,86,87,88,89,90,91,92,93,94,95,96,97,98,99,100,101] [⟨some 88,.buildSl 1 1 [(.s (.string ⟨#[]⟩))] [(0,(.t 87))],some (85,true)⟩]
def X23_15t20:=hO R23_15t20 R23_15p20 R23_15t21 [88] [64,65,66,67,68,69,70,71,72,73,74,75,76,77,78,79,80,81,82,83,84,85,86,87,88,89,90,91,92,93,94,95,96,97,98,99,100,101] [⟨some 89,.call (.c (.fn 41 [] [])) [(.c (.s (.bool true))),(.t 88)],some (85,true)⟩]
def T23_15p21:=hT R23_15p21 [82,85,89,90,91] [92] 93 [] [(92,(.pick (.t 82) (.c (.s (.bool true))) (.pick (.t 85) (.t 89) (.c (.s (.bool false))))))] [.sub 0 [2] [82],.sub 0 [] [],.sub 0 [] []]
def X23_15t21:=hS R23_15t21 R23_15p21 R23_15t22 [82,85,89,90,91] [92] [64,65,66,67,68,69,70,71,72,73,74,75,76,77,78,79,80,81,82,83,84,85,86,87,88,89,90,91,92,93,94,95,96,97,98,99,100,101]
def X23_15t22:=hO R23_15t22 R23_15p22 R23_15t23 [] [64,65,66,67,68,69,70,71,72,73,74,75,76,77,78,79,80,81,82,83,84,85,86,87,88,89,90,91,92,93,94,95,96,97,98,99,100,101] [⟨some 93,.fieldAddr 2 (.t 10),some (92,false)⟩]
def X23_15t23:=hO R23_15t23 R23_15p23 R23_15t24 [93] [64,65,66,67,68,69,70,71,72,73,74,75,76,77,78,79,80,81,82,83,84,85,86,87,88,89,90,91,92,93,94,95,96,97,98,99,100,101] [⟨some 94,.load false 1 (.t 93),some (92,false)⟩]
def X23_15t24:=hO R23_15t24 R23_15p24 R23_15t25 [94] [64,65,66,67,68,69,70,71,72,73,74,75,76,77,78,79,80,81,82,83,84,85,86,87,88,89,90,91,92,93,94,95,96,97,98,99,100,101] [⟨some 95,.move (.t 94),some (92,false)⟩]
def X23_15t25:=hO R23_15t25 R23_15p25 R23_15t26 [] [64,65,66,67,68,69,70,71,72,73,74,75,76,77,78,79,80,81,82,83,84,85,86,87,88,89,90,91,92,93,94,95,96,97,98,99,100,101] [⟨some 96,.fieldAddr 3 (.t 9),some (95,true)⟩]
def X23_15t26:=hO R23_15t26 R23_15p26 R23_15t27 [96] [64,65,66,67,68,69,70,71,72,73,74,75,76,77,78,79,80,81,82,83,84,85,86,87,88,89,90,91,92,93,94,95,96,97,98,99,100,101] [⟨some 97,.load false 1 (.t 96),some (95,true)⟩]
def X23_15t27:=hO R23_15t27 R23_15p27 R23_15t28 [97] [64,65,66,67,68,69,70,71,72,73,74,75,76,77,78,79,80,81,82,83,84,85,86,87,88,89,90,91,92,93,94,95,96,97,98,99,100,101] [⟨some 98,.buildSl 1 1 [(.s (.string ⟨#[]⟩))] [(0,(.t 97))],some (95,true)⟩]
def X23_15t28:=hO R23_15t28 R23_15p28 R23_15t29 [98] [64,65,66,67,68,69,70,71,72,73,74,75,76,77,78,79,80,81,82,83,84,85,86,87,88,89,90,91,92,93,94,95,96,97,98,99,100,101] [⟨some 99,.call (.c (.fn 41 [] [])) [(.c (.s (.bool true))),(.t 98)],some (95,true)⟩]
def T23_15t29:=hT R23_15t29 [64,65,66,67,68,69,70,71,72,73,74,75,76,77,78,79,80,81,82,83,84,85,86,87,88,89,90,91,92,93,94,95,96,97,98,99,100,101] [11] 102 [] [(11,(.pick (.t 92) (.c (.s (.bool true))) (.pick (.t 95) (.t 99) (.c (.s (.bool false))))))] [.sub 0 [2] [92],.sub 0 [] [],.sub 0 [] []]
def X23_15t29:=hL R23_15t29 [64,65,66,67,68,69,70,71,72,73,74,75,76,77,78,79,80,81,82,83,84,85,86,87,88,89,90,91,92,93,94,95,96,97,98,99,100,101] [11]
def R23_16t22:List AOper:=[⟨some 128,.pick (.t 124) (.c (.s (.bool true))) (.t 127),some (120,true)⟩,⟨some 129,.pick (.t 120) (.t 128) (.c (.s (.bool false))),some (117,false)⟩,⟨some 130,.pick (.t 117) (.c (.s (.bool true))) (.t 129),none⟩,⟨some 11,.move (.t 130),none⟩]
def R23_16p21:List AOper:=[⟨some 127,.call (.c (.fn 42 [] [])) [(.t 126),(.c (.s (.string ⟨#[]⟩)))],some (124,false)⟩]
def R23_16t21:List AOper:=R23_16p21 ++ R23_16t22
def R23_16p20:List AOper:=[⟨some 126,.load false 1 (.t 125),some (124,false)⟩]
def R23_16t20:List AOper:=R23_16p20 ++ R23_16t21
def R23_16p19:List AOper:=[⟨some 125,.fieldAddr 7 (.t 9),some (124,false)⟩]
def R23_16t19:List AOper:=R23_16p19 ++ R23_16t20
def R23_16p18:List AOper:=[⟨some 124,.move (.t 123),some (120,true)⟩]
def R23_16t18:List AOper:=R23_16p18 ++ R23_16t19
def R23_16p17:List AOper:=[⟨some 123,.call (.c (.fn 41 [] [])) [(.c (.s (.bool false))),(.t 122)],some (120,true)⟩]
def R23_16t17:List AOper:=R23_16p17 ++ R23_16t18
def R23_16p16:List AOper:=[⟨some 122,.load false 1 (.t 121),some (120,true)⟩]
def R23_16t16:List AOper:=R23_16p16 ++ R23_16t17
def R23_16p15:List AOper:=[⟨some 121,.fieldAddr 7 (.t 9),some (120,true)⟩]
def R23_16t15:List AOper:=R23_16p15 ++ R23_16t16
def R23_16p14:List AOper:=[⟨some 120,.move (.t 119),some (117,false)⟩]
def R23_16t14:List AOper:=R23_16p14 ++ R23_16t15
def R23_16p13:List AOper:=[⟨some 119,.load false 1 (.t 118),some (117,false)⟩]
def R23_16t13:List AOper:=R23_16p13 ++ R23_16t14
def R23_16p12:List AOper:=[⟨some 118,.fieldAddr 6 (.t 10),some (117,false)⟩]
def R23_16t12:List AOper:=R23_16p12 ++ R23_16t13
def R23_16p11:List AOper:=[⟨some 114,.pick (.t 110) (.c (.s (.bool true))) (.t 113),some (106,true)⟩,⟨some 115,.pick (.t 106) (.t 114) (.c (.s (.bool false))),some (103,false)⟩,⟨some 116,.pick (.t 103) (.c (.s (.bool true))) (.t 115),none⟩,⟨some 117,.move (.t 116),none⟩]
def R23_16t11:List AOper:=R23_16p11 ++ R23_16t12
def R23_16p10:List AOper:=[⟨some 113,.call (.c (.fn 42 [] [])) [(.t 112),(.c (.s (.string ⟨#[]⟩)))],some (110,false)⟩]
def R23_16t10:List AOper:=R23_16p10 ++ R23_16t11
def R23_16p9:List AOper:=[⟨some 112,.load false 1 (.t 111),some (110,false)⟩]
def R23_16t9:List AOper:=R23_16p9 ++ R23_16t10
def R23_16p8:List AOper:=[⟨some 111,.fieldAddr 6 (.t 9),some (110,false)⟩]
def R23_16t8:List AOper:=R23_16p8 ++ R23_16t9
def R23_16p7:List AOper:=[⟨some 110,.move (.t 109),some (106,true)⟩]
def R23_16t7:List AOper:=R23_16p7 ++ R23_16t8
def R23_16p6:List AOper:=[⟨some 109,.call (.c (.fn 41 [] [])) [(.c (.s (.bool true))),(.t 108)],some (106,true)⟩]
def R23_16t6:List AOper:=R23_16p6 ++ R23_16t7
def R23_16p5:List AOper:=[⟨some 108,.load false 1 (.t 107),some (106,true)⟩]
def R23_16t5:List AOper:=R23_16p5 ++ R23_16t6
def R23_16p4:List AOper:=[⟨some 107,.fieldAddr 6 (.t 9),some (106,true)⟩]
def R23_16t4:List AOper:=R23_16p4 ++ R23_16t5
def R23_16p3:List AOper:=[⟨some 106,.move (.t 105),some (103,false)⟩]
def R23_16t3:List AOper:=R23_16p3 ++ R23_16t4
def R23_16p2:List AOper:=[⟨some 105,.load false 1 (.t 104),some (103,false)⟩]
def R23_16t2:List AOper:=R23_16p2 ++ R23_16t3
def R23_16p1:List AOper:=[⟨some 104,.fieldAddr 5 (.t 10),some (103,false)⟩]
def R23_16t1:List AOper:=R23_16p1 ++ R23_16t2
def R23_16p0:List AOper:=[⟨some 102,.move (.t 11),none⟩,⟨some 103,.move (.t 102),none⟩]
def R23_16:List AOper:=R23_16p0 ++ R23_16t1
def T23_16p0:=hT R23_16p0 [11,102] [103] 104 [] [(103,(.t 11))] [.tt 11,.tt 11]
def X23_16:=hS R23_16 R23_16p0 R23_16t1 [11,102] [103] [9,10,102,103,104,105,106,107,108,109,110,111,112,113,114,115,116,117,118,119,120,121,122,123,124,125,126,127,128,129,130]
def X23_16t1:=hO R23_16t1 R23_16p1 R23_16t2 [] [9,10,102,103,104,105,106,107,108,109,110,111,112,113,114,115,116,117,118,119,120,121,122,123,124,125,126,127,128,129,130] [⟨some 104,.fieldAddr 5 (.t 10),some (103,false)⟩]
def X23_16t2:=hO R23_16t2 R23_16p2 R23_16t3 [104] [9,10,102,103,104,105,106,107,108,109,110,111,112,113,114,115,116,117,118,119,120,121,122,123,124,125,126,127,128,129,130] [⟨some 105,.load false 1 (.t 104),some (103,false)⟩]
def X23_16t3:=hO R23_16t3 R23_16p3 R23_16t4 [105] [9,10,102,103,104,105,106,107,108,109,110,111,112,113,114,115,116,117,118,119,120,121,122,123,124,125,126,127,128,129,130] [⟨some 106,.move (.t 105),some (103,false)⟩]
def X23_16t4:=hO R23_16t4 R23_16p4 R23_16t5 [] [9,10,102,103,104,105,106,107,108,109,110,111,112,113,114,115,116,117,118,119,120,121,122,123,124,125,126,127,128,129,130] [⟨some 107,.fieldAddr 6 (.t 9),some (106,true)⟩]
def X23_16t5:=hO R23_16t5 R23_16p5 R23_16t6 [107] [9,10,102,103,104,105,106,107,108,109,110,111,112,113,114,115,116,117,118,119,120,121,122,123,124,125,126,127,128,129,130] [⟨some 108,.load false 1 (.t 107),some (106,true)⟩]
def X23_16t6:=hO R23_16t6 R23_16p6 R23_16t7 [108] [9,10,102,103,104,105,106,107,108,109,110,111,112,113,114,115,116,117,118,119,120,121,122,123,124,125,126,127,128,129,130] [⟨some 109,.call (.c (.fn 41 [] [])) [(.c (.s (.bool true))),(.t 108)],some (106,true)⟩]
def X23_16t7:=hO R23_16t7 R23_16p7 R23_16t8 [109] [9,10,102,103,104,105,106,107,108,109,110,111,112,113,114,115,116,117,118,119,120,121,122,123,124,125,126,127,128,129,130] [⟨some 110,.move (.t 109),some (106,true)⟩]
def X23_16t8:=hO R23_16t8 R23_16p8 R23_16t9 [] [9,10,102,103,104,105,106,107,108,109,110,111,112,113,114,115,116,117,118,119,120,121,122,123,124,125,126,127,128,129,130] [⟨some 111,.fieldAddr 6 (.t 9),some (110,false)⟩]
def X23_16t9:=hO R23_16t9 R23_16p9 R23_16t10 [111] [9,10,102,103,104,105,106,107,108,109,110,111,112,113,114,115,116,117,118,119,120,121,122,123,124,125,126,127,128,129,130] [⟨some 112,.load false 1 (.t 111),some (110,false)⟩]
def X23_16t10:=hO R23_16t10 R23_16p10 R23_16t11 [112] [9,10,102,103,104,105,106,107,108,109,110,111,112,113,114,115,116,117,118,119,120,121,122,123,124,125,126,127,128,129,130] [⟨some 113,.call (.c (.fn 42 [] [])) [(.t 112),(.c (.s (.string ⟨#[]⟩)))],some (110,false)⟩]
def T23_16p11:=hT R23_16p11 [103,106,110,113,114,115,116] [117] 118 [([(106,true,(.t 106))],(.pick (.t 110) (.c (.s (.bool true))) (.t 113)))] [(117,(.pick (.t 103) (.c (.s (.bool true))) (.pick (.t 106) (.pick (.t 110) (.c (.s (.bool true))) (.t 113)) (.c (.s (.bool false))))))] [.keep [(106,true,(.t 106))] (.pick (.t 110) (.c (.s (.bool true))) (.t 113)),.sub 0 [2] [103],.sub 0 [] [],.sub 0 [] []]
def X23_16t11:=hS R23_16t11 R23_16p11 R23_16t12 [103,106,110,113,114,115,116] [117] [9,10,102,103,104,105,106,107,108,109,110,111,112,113,114,115,116,117,118,119,120,121,122,123,124,125,126,127,128,129,130]
def X23_16t12:=hO R23_16t12 R23_16p12 R23_16t13 [10] [9,10,102,103,104,105,106,107,108,109,110,111,112,113,114,115,116,117,118,119,120,121,122,123,124,125,126,127,128,129,130] [⟨some 118,.fieldAddr 6 (.t 10),some (117,false)⟩]
def X23_16t13:=hO R23_16t13 R23_16p13 R23_16t14 [118] [9,10,102,103,104,105,106,107,108,109,110,111,112,113,114,115,116,117,118,119,120,121,122,123,124,125,126,127,128,129,130] [⟨some 119,.load false 1 (.t 118),some (117,false)⟩]
def X23_16t14:=hO R23_16t14 R23_16p14 R23_16t15 [119] [9,10,102,103,104,105,106,107,108,109,110,111,112,113,114,115,116,117,118,119,120,121,122,123,124,125,126,127,128,129,130] [⟨some 120,.move (.t 119),some (117,false)⟩]
def X23_16t15:=hO R23_16t15 R23_16p15 R23_16t16 [] [9,10,102,103,104,105,106,107,108,109,110,111,112,113,114,115,116,117,118,119,120,121,122,123,124,125,126,127,128,129,130] [⟨some 121,.fieldAddr 7 (.t 9),some (120,true)⟩]
def X23_16t16:=hO R23_16t16 R23_16p16 R23_16t17 [121] [9,10,102,103,104,105,106,107,108,109,110,111,112,113,114,115,116,117,118,119,120,121,122,123,124,125,126,127,128,129,130] [⟨some 122,.load false 1 (.t 121),some (120,true)⟩]
def X23_16t17:=hO R23_16t17 R23_16p17 R23_16t18 [122] [9,10,102,103,104,105,106,107,108,109,110,111,112,113,114,115,116,117,118,119,120,121,122,123,124,125,126,127,128,129,130] [⟨some 123,.call (.c (.fn 41 [] [])) [(.c (.s (.bool false))),(.t 122)],some (120,true)⟩]
def X23_16t18:=hO R23_16t18 R23_16p18 R23_16t19 [123] [9,10,102,103,104,105,106,107,108,109,110,111,112,113,114,115,116,117,118,119,120,121,122,123,124,125,126,127,128,129,130] [⟨some 124,.move (.t 123),some (120,true)⟩]
def X23_16t19:=hO R23_16t19 R23_16p19 R23_16t20 [9] [9,10,102,103,104,105,106,107,108,109,110,111,112,113,114,115,116,117,118,119,120,121,122,123,124,125,126,127,128,129,130] [⟨some 125,.fieldAddr 7 (.t 9),some (124,false)⟩]
def X23_16t20:=hO R23_16t20 R23_16p20 R23_16t21 [125] [9,10,102,103,104,105,106,107,108,109,110,111,112,113,114,115,116,117,118,119,120,121,122,123,124,125,126,127,128,129,130] [⟨some 126,.load false 1 (.t 125),some (124,false)⟩]
def X23_16t21:=hO R23_16t21 R23_16p21 R23_16t22 [126] [9,10,102,103,104,105,106,107,108,109,110,111,112,113,114,115,116,117,118,119,120,121,122,123,124,125,126,127,128,129,130] [⟨some 127,.call (.c (.fn 42 [] [])) [(.t 126),(.c (.s (.string ⟨#[]⟩)))],some (124,false)⟩]
def T23_16t22:=hT R23_16t22 [9,10,102,103,104,105,106,107,108,109,110,111,112,113,114,115,116,117,118,119,120,121,122,123,124,125,126,127,128,129,130] [11] 131 [([(120,true,(.t 120))],(.pick (.t 124) (.c (.s (.bool true))) (.t 127)))] [(11,(.pick (.t 117) (.c (.s (.bool true))) (.pick (.t 120) (.pick (.t 124) (.c (.s (.bool true))) (.t 127)) (.c (.s (.bool false))))))] [.keep [(120,true,(.t 120))] (.pick (.t 124) (.c (.s (.bool true))) (.t 127)),.sub 0 [2] [117],.sub 0 [] [],.sub 0 [] []]
def X23_16t22:=hL R23_16t22 [9,10,102,103,104,105,106,107,108,109,110,111,112,113,114,115,116,117,118,119,120,121,122,123,124,125,126,127,128,129,130] [11]
def R23_17:List AOper:=[
 ⟨some 131,.move (.t 11),none⟩]
def T23_17:=hT R23_17 [11] [131] 132 [] [(131,(.t 11))] [.tt 11]
def R23_18t2:List AOper:=[⟨some 3,.move (.c (.s (.bool true))),none⟩]
def R23_18p1:List AOper:=[⟨none,.store 3 (.t 2) (.t 135),none⟩]
def R23_18t1:List AOper:=R23_18p1 ++ R23_18t2
def R23_18p0:List AOper:=[⟨some 132,.move (.t 4),none⟩,⟨some 133,.move (.t 6),none⟩,⟨some 134,.move (.t 8),none⟩,⟨some 135,.build [(.s (.int .i64 0)),(.s (.int .i64 0)),(.s (.int .i64 0))] [(0,1),(1,1),(2,1)] [(0,(.t 132)),(1,(.t 133)),(2,(.t 134))],none⟩]
def R23_18:List AOper:=R23_18p0 ++ R23_18t1
def T23_18p0:=hT R23_18p0 [0,4,6,8,16,17,18,35,36,37,50,51,52,131,132,133,134] [135] 136 [] [(135,(.op (.build [(.s (.int .i64 0)),(.s (.int .i64 0)),(.s (.int .i64 0))] [(0,1),(1,1),(2,1)] [(0,(.t 0)),(1,(.t 1)),(2,(.t 2))]) [(.t 4),(.t 6),(.t 8)]))] [.tt 4,.tt 6,.tt 8,.sub 0 [] []]
def X23_18:=hS R23_18 R23_18p0 R23_18t1 [0,4,6,8,16,17,18,35,36,37,50,51,52,131,132,133,134] [135] [0,4,6,8,16,17,18,35,36,37,50,51,52,131,132,133,134,135]
def X23_18t1:=hO R23_18t1 R23_18p1 R23_18t2 [135] [0,4,6,8,16,17,18,35,36,37,50,51,52,131,132,133,134,135] [⟨none,.store 3 (.t 2) (.t 135),none⟩]
def T23_18t2:=hT R23_18t2 [0,4,6,8,16,17,18,35,36,37,50,51,52,131,132,133,134,135] [3] 4 [] [(3,(.c (.s (.bool true))))] [.cc (.s (.bool true))]
def X23_18t2:=hL R23_18t2 [0,4,6,8,16,17,18,35,36,37,50,51,52,131,132,133,134,135] [3]
def R23_19:List AOper:=[
 ⟨some 136,.bin .add (.t 52) (.c (.s (.int .i64 1))),none⟩,
 ⟨some 52,.move (.t 136),none⟩]
def T23_19:=hT R23_19 [8,131,136] [52] 137 [] [(52,(.op (.bin .add (.t 0) (.c (.s (.int .i64 1)))) [(.t 52),(.c (.s (.int .i64 1)))]))] [.sub 0 [] [],.sub 0 [] []]
def s_f23_l0_b:ACode:=
 (.seq (.regionE R23_12 [] [53])
 (.seq (.cond (.t 53)
 .skip
 (.exit 4))
 (.seq (.block 5
 (.seq (.region R23_13 [] [53,54,55,56])
 (.seq (.region R23_14 [] [57,58,59,60,61,62,63])
 (.seq (.region R23_15 [] [64,65,66,67,68,69,70,71,72,73,74,75,76,77,78,79,80,81,82,83,84,85,86,87,88,89,90,91,92,93,94,95,96,97,98,99,100,101])
 (.seq (.region R23_16 [] [9,10,102,103,104,105,106,107,108,109,110,111,112,113,114,115,116,117,118,119,120,121,122,123,124,125,126,127,128,129,130])
 (.seq (.regionE R23_17 [11] [131])
 (.cond (.t 131)
 (.seq (.region R23_18 [] [0,4,6,8,16,17,18,35,36,37,50,51,52,131,132,133,134,135])
 .ret)
 .skip)))))))
 (.regionE R23_19 [8,131,136] [52]))))
def s_f23_l0:ACode:=s_f23_l0_b
def s_f23_l0_ev:=hE s_f23_l0 s_f23_l0_b
def R23_20:List AOper:=[
 ⟨some 137,.bin .add (.t 37) (.c (.s (.int .i64 1))),none⟩,
 ⟨some 37,.move (.t 137),none⟩]
def T23_20:=hT R23_20 [6,50,51,52,53,137] [37] 138 [] [(37,(.op (.bin .add (.t 0) (.c (.s (.int .i64 1)))) [(.t 37),(.c (.s (.int .i64 1)))]))] [.sub 0 [] [],.sub 0 [] []]
def s_f23_l1_b:ACode:=
 (.seq (.regionE R23_7 [] [38])
 (.seq (.cond (.t 38)
 .skip
 (.exit 2))
 (.seq (.block 3
 (.seq (.region R23_8 [] [38,39,40,41])
 (.seq (.seq (.region R23_9 [] [42,43,44])
 (.cond (.t 45)
 (.seq (.region R23_10 [] [0,4,6,7,16,17,18,35,36,37,45,46,47,48])
 .ret)
 .skip))
 (.seq (.regionE R23_11 [7,45,49] [50,51,52])
 (.block 4
 (.loop [] s_f23_l0))))))
 (.regionE R23_20 [6,50,51,52,53,137] [37]))))
def s_f23_l1:ACode:=s_f23_l1_b
def s_f23_l1_ev:=hE s_f23_l1 s_f23_l1_b
def R23_21:List AOper:=[
 ⟨some 138,.bin .add (.t 18) (.c (.s (.int .i64 1))),none⟩,
 ⟨some 18,.move (.t 138),none⟩]
def T23_21:=hT R23_21 [4,35,36,37,38,138] [18] 139 [] [(18,(.op (.bin .add (.t 0) (.c (.s (.int .i64 1)))) [(.t 18),(.c (.s (.int .i64 1)))]))] [.sub 0 [] [],.sub 0 [] []]
def s_f23_l2_b:ACode:=
 (.seq (.regionE R23_2 [] [19])
 (.seq (.cond (.t 19)
 .skip
 (.exit 0))
 (.seq (.block 1
 (.seq (.region R23_3 [] [19,20,21,22])
 (.seq (.seq (.region R23_4 [] [23,24,25,26,27,28,29,30])
 (.cond (.t 31)
 (.seq (.region R23_5 [] [0,4,5,16,17,18,31,32,33])
 .ret)
 .skip))
 (.seq (.regionE R23_6 [5,31,34] [35,36,37])
 (.block 2
 (.loop [] s_f23_l1))))))
 (.regionE R23_21 [4,35,36,37,38,138] [18]))))
def s_f23_l2:ACode:=s_f23_l2_b
def s_f23_l2_ev:=hE s_f23_l2 s_f23_l2_b
def R23_22t2:List AOper:=[⟨some 3,.move (.c (.s (.bool false))),none⟩]
def R23_22p1:List AOper:=[⟨none,.store 3 (.t 2) (.t 139),none⟩]
def R23_22t1:List AOper:=R23_22p1 ++ R23_22t2
def R23_22p0:List AOper:=[⟨some 139,.build [(.s (.int .i64 0)),(.s (.int .i64 0)),(.s (.int .i64 0))] [(0,1),(1,1),(2,1)] [],none⟩]
def R23_22:List AOper:=R23_22p0 ++ R23_22t1
def T23_22p0:=hT R23_22p0 [0,16,17,18,19] [139] 140 [] [(139,(.op (.build [(.s (.int .i64 0)),(.s (.int .i64 0)),(.s (.int .i64 0))] [(0,1),(1,1),(2,1)] []) []))] [.sub 0 [] []]
def X23_22:=hS R23_22 R23_22p0 R23_22t1 [0,16,17,18,19] [139] [0,16,17,18,19,139]
def X23_22t1:=hO R23_22t1 R23_22p1 R23_22t2 [139] [0,16,17,18,19,139] [⟨none,.store 3 (.t 2) (.t 139),none⟩]
def T23_22t2:=hT R23_22t2 [0,16,17,18,19,139] [3] 4 [] [(3,(.c (.s (.bool false))))] [.cc (.s (.bool false))]
def X23_22t2:=hL R23_22t2 [0,16,17,18,19,139] [3]
def s_f23:ACFun:={ ntmps:=140,results:=[(.cell 2 true 3),(.tmp 3)],body:=
 (.seq (.region R23_0 [] K23_0)
 (.seq (.seq (.regionE R23_1 [12,13,14,15] [16,17,18])
 (.block 0
 (.loop [] s_f23_l2)))
 (.seq (.region R23_22 [] [0,16,17,18,19,139])
 .ret))) }
theorem s_f23_first:firstOk (List.range' 1 (s_f23.ntmps - 1)) s_f23.body=true:=by kernel_rfl
abbrev k_f30:Nat:=30
def K30_0:List Nat:=[0,3,4,5,6,7,8]
theorem A30_0_0:K30_0.contains 0=true:=by kernel_rfl
def A30_0_1:=hK K30_0 1
def A30_0_2:=hK K30_0 2
theorem A30_0_3:K30_0.contains 3=true:=by kernel_rfl
def R30_0t2:List AOper:=[⟨some 3,.move (.c (.s (.bool false))),none⟩]
def R30_0p1:List AOper:=[⟨some 2,.alloc [(.s (.int .i64 0)),(.s (.int .i64 0)),(.s (.int .i64 0))],none⟩]
def R30_0t1:List AOper:=R30_0p1 ++ R30_0t2
def R30_0p0:List AOper:=[⟨some 1,.box (.t 0),none⟩]
def R30_0:List AOper:=R30_0p0 ++ R30_0t1
def X30_0:=hO R30_0 R30_0p0 R30_0t1 [0,2,3,4,5,6,7,8] K30_0 [⟨some 1,.box (.t 0),none⟩]
def X30_0t1:=hO R30_0t1 R30_0p1 R30_0t2 [] K30_0 [⟨some 2,.alloc [(.s (.int .i64 0)),(.s (.int .i64 0)),(.s (.int .i64 0))],none⟩]
def T30_0t2:=hT R30_0t2 K30_0 [] 4 [] [] [.cc (.s (.bool false))]
def X30_0t2:=hL R30_0t2 K30_0 []
def R30_1t4:List AOper:=[⟨some 3,.move (.t 8),none⟩]
def R30_1p3:List AOper:=[⟨none,.store 3 (.t 2) (.t 7),none⟩]
def R30_1t3:List AOper:=R30_1p3 ++ R30_1t4
def R30_1p2:List AOper:=[⟨some 7,.extract (.t 6) 0,none⟩,⟨some 8,.extract (.t 6) 1,none⟩]
def R30_1t2:List AOper:=R30_1p2 ++ R30_1t3
def R30_1p1:List AOper:=[⟨some 6,.call (.c (.fn 48 [] [])) [(.t 4),(.t 5)],none⟩]
def R30_1t1:List AOper:=R30_1p1 ++ R30_1t2
def R30_1p0:List AOper:=[⟨some 4,.load false 1 (.t 1),none⟩,⟨some 5,.mkFn 50 [] [(.t 1)],none⟩]
def R30_1:List AOper:=R30_1p0 ++ R30_1t1
def T30_1p0:=hT R30_1p0 [1] [4,5] 6 [] [(4,(.op (.load false 1 (.t 0)) [(.t 1)])),(5,(.op (.mkFn 50 [] [(.t 0)]) [(.t 1)]))] [.sub 0 [] [],.sub 1 [] []]
def X30_1:=hS R30_1 R30_1p0 R30_1t1 [1] [4,5] [1,4,5,6,7,8]
def X30_1t1:=hO R30_1t1 R30_1p1 R30_1t2 [4,5] [1,4,5,6,7,8] [⟨some 6,.call (.c (.fn 48 [] [])) [(.t 4),(.t 5)],none⟩]
def T30_1p2:=hT R30_1p2 [6] [7,8] 9 [] [(7,(.op (.extract (.t 0) 0) [(.t 6)])),(8,(.op (.extract (.t 0) 1) [(.t 6)]))] [.sub 0 [] [],.sub 1 [] []]
def X30_1t2:=hS R30_1t2 R30_1p2 R30_1t3 [6] [7,8] [1,4,5,6,7,8]
def X30_1t3:=hO R30_1t3 R30_1p3 R30_1t4 [7] [1,4,5,6,7,8] [⟨none,.store 3 (.t 2) (.t 7),none⟩]
def T30_1t4:=hT R30_1t4 [1,4,5,6,7,8] [3] 4 [] [(3,(.t 8))] [.tt 8]
def X30_1t4:=hL R30_1t4 [1,4,5,6,7,8] [3]
def s_f30:ACFun:={ ntmps:=9,results:=[(.cell 2 true 3),(.tmp 3)],body:=
 (.seq (.region R30_0 [] K30_0)
 (.seq (.region R30_1 [] [1,4,5,6,7,8])
 .ret)) }
theorem s_f30_first:firstOk (List.range' 1 (s_f30.ntmps - 1)) s_f30.body=true:=by kernel_rfl
abbrev k_f39:Nat:=39
def K39_0:List Nat:=[2,3,4,5,6,7,8]
theorem s_f39_r0_kT:killV K39_0 (startV 9 [] 2)=[]:=by kernel_rfl
def s_f39_r0_kA0:=hK K39_0 0
def s_f39_r0_kA1:=hK K39_0 1
def R39_0:List AOper:=[
 ⟨some 4,.move (.c (.s (.bool false))),none⟩]
def T39_0:=hT R39_0 K39_0 [] 5 [] [] [.cc (.s (.bool false))]
def R39_1t2:List AOper:=[⟨some 8,.bin .geq (.t 7) (.c (.s (.int .i64 0))),none⟩,⟨some 4,.move (.t 8),none⟩]
def R39_1p1:List AOper:=[⟨some 7,.call (.c (.fn 62 [] [])) [(.t 5),(.t 6)],none⟩]
def R39_1t1:List AOper:=R39_1p1 ++ R39_1t2
def R39_1p0:List AOper:=[⟨some 5,.move (.t 0),none⟩,⟨some 6,.move (.t 1),none⟩]
def R39_1:List AOper:=R39_1p0 ++ R39_1t1
def T39_1p0:=hT R39_1p0 [0,1] [5,6] 7 [] [(5,(.t 0)),(6,(.t 1))] [.tt 0,.tt 1]
def X39_1:=hS R39_1 R39_1p0 R39_1t1 [0,1] [5,6] [0,1,5,6,7,8]
def X39_1t1:=hO R39_1t1 R39_1p1 R39_1t2 [5,6] [0,1,5,6,7,8] [⟨some 7,.call (.c (.fn 62 [] [])) [(.t 5),(.t 6)],none⟩]
def T39_1t2:=hT R39_1t2 [0,1,5,6,7,8] [4] 9 [] [(4,(.op (.bin .geq (.t 0) (.c (.s (.int .i64 0)))) [(.t 7),(.c (.s (.int .i64 0)))]))] [.sub 0 [] [],.sub 0 [] []]
def X39_1t2:=hL R39_1t2 [0,1,5,6,7,8] [4]
def s_f39:ACFun:={ ntmps:=9,results:=[(.tmp 4)],body:=
 (.seq (.regionE R39_0 K39_0 [])
 (.seq (.region R39_1 [] [0,1,5,6,7,8])
 .ret)) }
abbrev k_f40:Nat:=40
def K40_0:List Nat:=[1,2,3,4,5]
theorem s_f40_r0_kT:killV K40_0 (startV 6 [] 1)=[]:=by kernel_rfl
def s_f40_r0_kA0:=hK K40_0 0
def R40_0:List AOper:=[
 ⟨some 2,.move (.c (.s (.bool false))),none⟩]
def T40_0:=hT R40_0 K40_0 [] 3 [] [] [.cc (.s (.bool false))]
def R40_1t2:List AOper:=[⟨some 5,.un .not (.t 4),none⟩,⟨some 2,.move (.t 5),none⟩]
def R40_1p1:List AOper:=[⟨some 4,.call (.c (.fn 7 [] [])) [(.t 3)],none⟩]
def R40_1t1:List AOper:=R40_1p1 ++ R40_1t2
def R40_1p0:List AOper:=[⟨some 3,.move (.t 0),none⟩]
def R40_1:List AOper:=R40_1p0 ++ R40_1t1
def T40_1p0:=hT R40_1p0 [0] [3] 4 [] [(3,(.t 0))] [.tt 0]
def X40_1:=hS R40_1 R40_1p0 R40_1t1 [0] [3] [0,3,4,5]
def X40_1t1:=hO R40_1t1 R40_1p1 R40_1t2 [3] [0,3,4,5] [⟨some 4,.call (.c (.fn 7 [] [])) [(.t 3)],none⟩]
def T40_1t2:=hT R40_1t2 [0,3,4,5] [2] 6 [] [(2,(.op (.un .not (.t 0)) [(.t 4)]))] [.sub 0 [] [],.sub 0 [] []]
def X40_1t2:=hL R40_1t2 [0,3,4,5] [2]
def s_f40:ACFun:={ ntmps:=6,results:=[(.tmp 2)],body:=
 (.seq (.regionE R40_0 K40_0 [])
 (.seq (.region R40_1 [] [0,3,4,5])
 .ret)) }
abbrev k_f41:Nat:=41
def K41_0:List Nat:=[0,3,4,5,6,7]
theorem A41_0_0:K41_0.contains 0=true:=by kernel_rfl
def A41_0_1:=hK K41_0 1
def A41_0_2:=hK K41_0 2
theorem A41_0_4:K41_0.contains 4=true:=by kernel_rfl
def R41_0t1:List AOper:=[⟨some 4,.move (.c (.s (.bool false))),none⟩]
def R41_0p0:List AOper:=[⟨some 2,.box (.t 0),none⟩]
def R41_0:List AOper:=R41_0p0 ++ R41_0t1
def X41_0:=hO R41_0 R41_0p0 R41_0t1 [0,3,4,5,6,7] K41_0 [⟨some 2,.box (.t 0),none⟩]
def T41_0t1:=hT R41_0t1 K41_0 [] 5 [] [] [.cc (.s (.bool false))]
def X41_0t1:=hL R41_0t1 K41_0 []
def R41_1t2:List AOper:=[⟨some 4,.move (.t 7),none⟩]
def R41_1p1:List AOper:=[⟨some 7,.call (.c (.fn 39 [] [])) [(.t 5),(.t 6)],none⟩]
def R41_1t1:List AOper:=R41_1p1 ++ R41_1t2
def R41_1p0:List AOper:=[⟨some 5,.move (.t 1),none⟩,⟨some 6,.mkFn 63 [] [(.t 2)],none⟩]
def R41_1:List AOper:=R41_1p0 ++ R41_1t1
def T41_1p0:=hT R41_1p0 [1,2] [5,6] 7 [] [(5,(.t 1)),(6,(.op (.mkFn 63 [] [(.t 0)]) [(.t 2)]))] [.tt 1,.sub 1 [] []]
def X41_1:=hS R41_1 R41_1p0 R41_1t1 [1,2] [5,6] [1,2,5,6,7]
def X41_1t1:=hO R41_1t1 R41_1p1 R41_1t2 [5,6] [1,2,5,6,7] [⟨some 7,.call (.c (.fn 39 [] [])) [(.t 5),(.t 6)],none⟩]
def T41_1t2:=hT R41_1t2 [1,2,5,6,7] [4] 5 [] [(4,(.t 7))] [.tt 7]
def X41_1t2:=hL R41_1t2 [1,2,5,6,7] [4]
def s_f41:ACFun:={ ntmps:=8,results:=[(.tmp 4)],body:=
 (.seq (.region R41_0 [] K41_0)
 (.seq (.region R41_1 [] [1,2,5,6,7])
 .ret)) }
theorem s_f41_first:firstOk (List.range' 2 (s_f41.ntmps - 2)) s_f41.body=true:=by kernel_rfl
abbrev k_f42:Nat:=42
def K42_0:List Nat:=[2,3,4,5,6,7,8]
theorem s_f42_r0_kT:killV K42_0 (startV 9 [] 2)=[]:=by kernel_rfl
def s_f42_r0_kA0:=hK K42_0 0
def s_f42_r0_kA1:=hK K42_0 1
def R42_0:List AOper:=[
 ⟨some 4,.move (.c (.s (.bool false))),none⟩]
def T42_0:=hT R42_0 K42_0 [] 5 [] [] [.cc (.s (.bool false))]
def R42_1t2:List AOper:=[⟨some 8,.bin .geq (.t 7) (.c (.s (.int .i64 0))),none⟩,⟨some 4,.move (.t 8),none⟩]
def R42_1p1:List AOper:=[⟨some 7,.call (.c (.fn 64 [] [])) [(.t 5),(.t 6)],none⟩]
def R42_1t1:List AOper:=R42_1p1 ++ R42_1t2
def R42_1p0:List AOper:=[⟨some 5,.move (.t 0),none⟩,⟨some 6,.move (.t 1),none⟩]
def R42_1:List AOper:=R42_1p0 ++ R42_1t1
def T42_1p0:=hT R42_1p0 [0,1] [5,6] 7 [] [(5,(.t 0)),(6,(.t 1))] [.tt 0,.tt 1]
def X42_1:=hS R42_1 R42_1p0 R42_1t1 [0,1] [5,6] [0,1,5,6,7,8]
def X42_1t1:=hO R42_1t1 R42_1p1 R42_1t2 [5,6] [0,1,5,6,7,8] [⟨some 7,.call (.c (.fn 64 [] [])) [(.t 5),(.t 6)],none⟩]
def T42_1t2:=hT R42_1t2 [0,1,5,6,7,8] [4] 9 [] [(4,(.op (.bin .geq (.t 0) (.c (.s (.int .i64 0)))) [(.t 7),(.c (.s (.int .i64 0)))]))] [.sub 0 [] [],.sub 0 [] []]
def X42_1t2:=hL R42_1t2 [0,1,5,6,7,8] [4]
def s_f42:ACFun:={ ntmps:=9,results:=[(.tmp 4)],body:=
 (.seq (.regionE R42_0 K42_0 [])
 (.seq (.region R42_1 [] [0,1,5,6,7,8])
 .ret)) }
abbrev k_f43:Nat:=43
def K43_0:List Nat:=[2,3,5,6,7,8,9,10,11,12,13,14,15,16,17,18,19,20,21,22,23,24,25,26]
def A43_0_0:=hK K43_0 0
def A43_0_1:=hK K43_0 1
def A43_0_4:=hK K43_0 4
theorem A43_0_5:K43_0.contains 5=true:=by kernel_rfl
def R43_0t1:List AOper:=[⟨some 5,.move (.c (.s (.bool false))),none⟩]
def R43_0p0:List AOper:=[⟨some 4,.alloc [(.s (.int .i64 0)),(.s (.int .i64 0)),(.s (.int .i64 0))],none⟩]
def R43_0:List AOper:=R43_0p0 ++ R43_0t1
def X43_0:=hO R43_0 R43_0p0 R43_0t1 [2,3,5,6,7,8,9,10,11,12,13,14,15,16,17,18,19,20,21,22,23,24,25,26] K43_0 [⟨some 4,.alloc [(.s (.int .i64 0)),(.s (.int .i64 0)),(.s (.int .i64 0))],none⟩]
def T43_0t1:=hT R43_0t1 K43_0 [] 6 [] [] [.cc (.s (.bool false))]
def X43_0t1:=hL R43_0t1 K43_0 []
def R43_1:List AOper:=[
 ⟨some 8,.move (.t 0),none⟩,
 ⟨some 9,.nilCheck (.t 8),none⟩,
 ⟨some 10,.fieldAddr 0 (.t 9),none⟩,
 ⟨some 11,.fieldAddr 0 (.t 10),none⟩,
 ⟨some 12,.load false 1 (.t 11),none⟩,
 ⟨some 13,.lenS .s (.t 12),none⟩,
 ⟨some 14,.move (.c (.s (.int .i64 0))),none⟩]
def T43_1:=hT R43_1 [0,8,9,10,11] [12,13,14] 15 [] [(12,(.op (.load false 1 (.t 0)) [(.op (.fieldAddr 0 (.t 0)) [(.op (.fieldAddr 0 (.t 0)) [(.op (.nilCheck (.t 0)) [(.t 0)])])])])),(13,(.op (.lenS .s (.t 0)) [(.op (.load false 1 (.t 0)) [(.op (.fieldAddr 0 (.t 0)) [(.op (.fieldAddr 0 (.t 0)) [(.op (.nilCheck (.t 0)) [(.t 0)])])])])])),(14,(.c (.s (.int .i64 0))))] [.tt 0,.sub 0 [0,0,0] [],.sub 0 [0,0] [],.sub 0 [0] [],.sub 0 [] [],.sub 1 [] [],.cc (.s (.int .i64 0))]
def R43_2:List AOper:=[
 ⟨some 15,.bin .lss (.t 14) (.t 13),none⟩]
def T43_2:=hT R43_2 [] [15] 16 [] [(15,(.op (.bin .lss (.t 0) (.t 1)) [(.t 14),(.t 13)]))] [.sub 0 [] []]
def R43_3t3:List AOper:=[⟨none,.store 3 (.t 7) (.t 18),none⟩]
def R43_3p2:List AOper:=[⟨some 6,.move (.t 16),none⟩]
def R43_3t2:List AOper:=R43_3p2 ++ R43_3t3
def R43_3p1:List AOper:=[⟨some 7,.alloc [(.s (.string ⟨#[]⟩)),(.s (.slice none 0 0)),(.s (.slice none 0 0))],none⟩]
def R43_3t1:List AOper:=R43_3p1 ++ R43_3t2
def R43_3p0:List AOper:=[⟨some 16,.move (.t 14),none⟩,⟨some 17,.indexAddr 3 (.t 12) (.t 14),none⟩,⟨some 18,.load true 3 (.t 17),none⟩]
def R43_3:List AOper:=R43_3p0 ++ R43_3t1
def T43_3p0:=hT R43_3p0 [15,17] [16,18] 19 [] [(16,(.t 14)),(18,(.op (.load true 3 (.t 0)) [(.op (.indexAddr 3 (.t 0) (.t 1)) [(.t 12),(.t 14)])]))] [.tt 14,.sub 1 [0] [],.sub 1 [] []]
def X43_3:=hS R43_3 R43_3p0 R43_3t1 [15,17] [16,18] [15,16,17,18]
def X43_3t1:=hO R43_3t1 R43_3p1 R43_3t2 [] [15,16,17,18] [⟨some 7,.alloc [(.s (.string ⟨#[]⟩)),(.s (.slice none 0 0)),(.s (.slice none 0 0))],none⟩]
def T43_3p2:=hT R43_3p2 [16] [6] 7 [] [(6,(.t 16))] [.tt 16]
def X43_3t2:=hS R43_3t2 R43_3p2 R43_3t3 [16] [6] [15,16,17,18]
def X43_3t3:=hX R43_3t3 [15,16,17,18] [⟨none,.store 3 (.t 7) (.t 18),none⟩]
def R43_4t1:List AOper:=[⟨some 22,.call (.t 19) [(.t 20),(.t 21)],none⟩]
def R43_4p0:List AOper:=[⟨some 19,.move (.t 1),none⟩,⟨some 20,.move (.t 6),none⟩,⟨some 21,.load true 3 (.t 7),none⟩]
def R43_4:List AOper:=R43_4p0 ++ R43_4t1
def T43_4p0:=hT R43_4p0 [7] [19,20,21] 22 [] [(19,(.t 1)),(20,(.t 6)),(21,(.op (.load true 3 (.t 0)) [(.t 7)]))] [.tt 1,.tt 6,.sub 2 [] []]
def X43_4:=hS R43_4 R43_4p0 R43_4t1 [7] [19,20,21] [7,19,20,21]
def X43_4t1:=hX R43_4t1 [7,19,20,21] [⟨some 22,.call (.t 19) [(.t 20),(.t 21)],none⟩]
def R43_5t2:List AOper:=[⟨some 5,.move (.c (.s (.bool true))),none⟩]
def R43_5p1:List AOper:=[⟨none,.store 3 (.t 4) (.t 24),none⟩]
def R43_5t1:List AOper:=R43_5p1 ++ R43_5t2
def R43_5p0:List AOper:=[⟨some 23,.move (.t 6),none⟩,⟨some 24,.build [(.s (.int .i64 0)),(.s (.int .i64 0)),(.s (.int .i64 0))] [(0,1),(1,1),(2,1)] [(0,(.t 23))],none⟩]
def R43_5:List AOper:=R43_5p0 ++ R43_5t1
def T43_5p0:=hT R43_5p0 [1,6,12,13,14,22,23] [24] 25 [] [(24,(.op (.build [(.s (.int .i64 0)),(.s (.int .i64 0)),(.s (.int .i64 0))] [(0,1),(1,1),(2,1)] [(0,(.t 0))]) [(.t 6)]))] [.tt 6,.sub 0 [] []]
def X43_5:=hS R43_5 R43_5p0 R43_5t1 [1,6,12,13,14,22,23] [24] [1,6,12,13,14,22,23,24]
def X43_5t1:=hO R43_5t1 R43_5p1 R43_5t2 [24] [1,6,12,13,14,22,23,24] [⟨none,.store 3 (.t 4) (.t 24),none⟩]
def T43_5t2:=hT R43_5t2 [1,6,12,13,14,22,23,24] [5] 6 [] [(5,(.c (.s (.bool true))))] [.cc (.s (.bool true))]
def X43_5t2:=hL R43_5t2 [1,6,12,13,14,22,23,24] [5]
def R43_6:List AOper:=[
 ⟨some 25,.bin .add (.t 14) (.c (.s (.int .i64 1))),none⟩,
 ⟨some 14,.move (.t 25),none⟩]
def T43_6:=hT R43_6 [6,22,25] [14] 26 [] [(14,(.op (.bin .add (.t 0) (.c (.s (.int .i64 1)))) [(.t 14),(.c (.s (.int .i64 1)))]))] [.sub 0 [] [],.sub 0 [] []]
def s_f43_l0_b:ACode:=
 (.seq (.regionE R43_2 [] [15])
 (.seq (.cond (.t 15)
 .skip
 (.exit 0))
 (.seq (.block 1
 (.seq (.region R43_3 [] [15,16,17,18])
 (.seq (.region R43_4 [] [7,19,20,21])
 (.cond (.t 22)
 (.seq (.region R43_5 [] [1,6,12,13,14,22,23,24])
 .ret)
 .skip))))
 (.regionE R43_6 [6,22,25] [14]))))
def s_f43_l0:ACode:=s_f43_l0_b
def s_f43_l0_ev:=hE s_f43_l0 s_f43_l0_b
def R43_7t2:List AOper:=[⟨some 5,.move (.c (.s (.bool false))),none⟩]
def R43_7p1:List AOper:=[⟨none,.store 3 (.t 4) (.t 26),none⟩]
def R43_7t1:List AOper:=R43_7p1 ++ R43_7t2
def R43_7p0:List AOper:=[⟨some 26,.build [(.s (.int .i64 0)),(.s (.int .i64 0)),(.s (.int .i64 0))] [(0,1),(1,1),(2,1)] [],none⟩]
def R43_7:List AOper:=R43_7p0 ++ R43_7t1
def T43_7p0:=hT R43_7p0 [1,12,13,14,15] [26] 27 [] [(26,(.op (.build [(.s (.int .i64 0)),(.s (.int .i64 0)),(.s (.int .i64 0))] [(0,1),(1,1),(2,1)] []) []))] [.sub 0 [] []]
def X43_7:=hS R43_7 R43_7p0 R43_7t1 [1,12,13,14,15] [26] [1,12,13,14,15,26]
def X43_7t1:=hO R43_7t1 R43_7p1 R43_7t2 [26] [1,12,13,14,15,26] [⟨none,.store 3 (.t 4) (.t 26),none⟩]
def T43_7t2:=hT R43_7t2 [1,12,13,14,15,26] [5] 6 [] [(5,(.c (.s (.bool false))))] [.cc (.s (.bool false))]
def X43_7t2:=hL R43_7t2 [1,12,13,14,15,26] [5]
def s_f43:ACFun:={ ntmps:=27,results:=[(.cell 4 true 3),(.tmp 5)],body:=
 (.seq (.region R43_0 [] K43_0)
 (.seq (.seq (.regionE R43_1 [0,8,9,10,11] [12,13,14])
 (.block 0
 (.loop [] s_f43_l0)))
 (.seq (.region R43_7 [] [1,12,13,14,15,26])
 .ret))) }
theorem s_f43_first:firstOk (List.range' 2 (s_f43.ntmps - 2)) s_f43.body=true:=by kernel_rfl
abbrev k_f44:Nat:=44
def K44_0:List Nat:=[0,1,3,5,6,7,8,9,10,11,12,13,14]
theorem A44_0_0:K44_0.contains 0=true:=by kernel_rfl
theorem A44_0_1:K44_0.contains 1=true:=by kernel_rfl
def A44_0_2:=hK K44_0 2
def A44_0_4:=hK K44_0 4
theorem A44_0_5:K44_0.contains 5=true:=by kernel_rfl
def R44_0t1:List AOper:=[⟨some 5,.move (.c (.s (.bool false))),none⟩]
def R44_0p0:List AOper:=[⟨some 4,.box (.t 1),none⟩]
def R44_0:List AOper:=R44_0p0 ++ R44_0t1
def X44_0:=hO R44_0 R44_0p0 R44_0t1 [0,1,3,5,6,7,8,9,10,11,12,13,14] K44_0 [⟨some 4,.box (.t 1),none⟩]
def T44_0t1:=hT R44_0t1 K44_0 [] 6 [] [] [.cc (.s (.bool false))]
def X44_0t1:=hL R44_0t1 K44_0 []
def R44_1:List AOper:=[
 ⟨some 7,.load false 1 (.t 2),none⟩,
 ⟨some 8,.fieldAddr 0 (.t 4),none⟩,
 ⟨some 9,.load false 1 (.t 8),none⟩,
 ⟨some 10,.mapGet .string (.s (.bool false)) (.t 7) (.t 9) false,none⟩,
 ⟨some 6,.move (.t 10),none⟩]
def T44_1:=hT R44_1 [7,8,9,10] [6] 11 [] [(6,(.op (.mapGet .string (.s (.bool false)) (.t 0) (.t 1) false) [(.op (.load false 1 (.t 0)) [(.t 2)]),(.op (.load false 1 (.t 0)) [(.op (.fieldAddr 0 (.t 0)) [(.t 4)])])]))] [.sub 0 [0] [],.sub 0 [1,0] [],.sub 0 [1] [],.sub 0 [] [],.sub 0 [] []]
def R44_2t1:List AOper:=[⟨none,.mapUpd .string (.t 11) (.t 13) (.c (.s (.bool true))),none⟩]
def R44_2p0:List AOper:=[⟨some 11,.load false 1 (.t 2),none⟩,⟨some 12,.fieldAddr 0 (.t 4),none⟩,⟨some 13,.load false 1 (.t 12),none⟩]
def R44_2:List AOper:=R44_2p0 ++ R44_2t1
def T44_2p0:=hT R44_2p0 [2,4,12] [11,13] 14 [] [(11,(.op (.load false 1 (.t 0)) [(.t 2)])),(13,(.op (.load false 1 (.t 0)) [(.op (.fieldAddr 0 (.t 0)) [(.t 4)])]))] [.sub 0 [] [],.sub 1 [0] [],.sub 1 [] []]
def X44_2:=hS R44_2 R44_2p0 R44_2t1 [2,4,12] [11,13] [2,4,11,12,13]
def X44_2t1:=hX R44_2t1 [2,4,11,12,13] [⟨none,.mapUpd .string (.t 11) (.t 13) (.c (.s (.bool true))),none⟩]
def R44_3:List AOper:=[
 ⟨some 14,.move (.t 6),none⟩,
 ⟨some 5,.move (.t 14),none⟩]
def T44_3:=hT R44_3 [6,14] [5] 15 [] [(5,(.t 6))] [.tt 6,.tt 6]
def s_f44:ACFun:={ ntmps:=15,results:=[(.tmp 5)],body:=
 (.seq (.region R44_0 [] K44_0)
 (.seq (.regionE R44_1 [7,8,9,10] [6])
 (.seq (.region R44_2 [] [2,4,11,12,13])
 (.seq (.regionE R44_3 [6,14] [5])
 .ret)))) }
theorem s_f44_first:firstOk (List.range' 3 (s_f44.ntmps - 3)) s_f44.body=true:=by kernel_rfl
abbrev k_f45:Nat:=45
def K45_0:List Nat:=[1,2,4,5,6,7,8,9,10,11]
def A45_0_0:=hK K45_0 0
theorem A45_0_1:K45_0.contains 1=true:=by kernel_rfl
def A45_0_3:=hK K45_0 3
theorem A45_0_4:K45_0.contains 4=true:=by kernel_rfl
def R45_0t1:List AOper:=[⟨some 4,.move (.c (.s (.int .i64 0))),none⟩]
def R45_0p0:List AOper:=[⟨some 3,.box (.t 1),none⟩]
def R45_0:List AOper:=R45_0p0 ++ R45_0t1
def X45_0:=hO R45_0 R45_0p0 R45_0t1 [1,2,4,5,6,7,8,9,10,11] K45_0 [⟨some 3,.box (.t 1),none⟩]
def T45_0t1:=hT R45_0t1 K45_0 [] 5 [] [] [.cc (.s (.int .i64 0))]
def X45_0t1:=hL R45_0t1 K45_0 []
def R45_1t2:List AOper:=[⟨some 4,.move (.t 11),none⟩]
def R45_1p1:List AOper:=[⟨some 11,.call (.c (.fn 65 [] [])) [(.t 9),(.t 10)],none⟩]
def R45_1t1:List AOper:=R45_1p1 ++ R45_1t2
def R45_1p0:List AOper:=[⟨some 5,.move (.t 0),none⟩,⟨some 6,.nilCheck (.t 5),none⟩,⟨some 7,.fieldAddr 0 (.t 6),none⟩,⟨some 8,.fieldAddr 0 (.t 7),none⟩,⟨some 9,.load false 1 (.t 8),none⟩,⟨some 10,.mkFn 66 [] [(.t 3)],none⟩]
def R45_1:List AOper:=R45_1p0 ++ R45_1t1
def T45_1p0:=hT R45_1p0 [0,3,5,6,7,8] [9,10] 11 [] [(9,(.op (.load false 1 (.t 0)) [(.op (.fieldAddr 0 (.t 0)) [(.op (.fieldAddr 0 (.t 0)) [(.op (.nilCheck (.t 0)) [(.t 0)])])])])),(10,(.op (.mkFn 66 [] [(.t 0)]) [(.t 3)]))] [.tt 0,.sub 0 [0,0,0] [],.sub 0 [0,0] [],.sub 0 [0] [],.sub 0 [] [],.sub 1 [] []]
def X45_1:=hS R45_1 R45_1p0 R45_1t1 [0,3,5,6,7,8] [9,10] [0,3,5,6,7,8,9,10,11]
def X45_1t1:=hO R45_1t1 R45_1p1 R45_1t2 [9,10] [0,3,5,6,7,8,9,10,11] [⟨some 11,.call (.c (.fn 65 [] [])) [(.t 9),(.t 10)],none⟩]
def T45_1t2:=hT R45_1t2 [0,3,5,6,7,8,9,10,11] [4] 5 [] [(4,(.t 11))] [.tt 11]
def X45_1t2:=hL R45_1t2 [0,3,5,6,7,8,9,10,11] [4]
def s_f45:ACFun:={ ntmps:=12,results:=[(.tmp 4)],body:=
 (.seq (.region R45_0 [] K45_0)
 (.seq (.region R45_1 [] [0,3,5,6,7,8,9,10,11])
 .ret)) }
theorem s_f45_first:firstOk (List.range' 2 (s_f45.ntmps - 2)) s_f45.body=true:=by kernel_rfl
abbrev k_f46:Nat:=46
def K46_0:List Nat:=[1,2,3,4,5,6,7,8]
theorem s_f46_r0_kT:killV K46_0 (startV 9 [] 1)=[]:=by kernel_rfl
def s_f46_r0_kA0:=hK K46_0 0
def R46_0:List AOper:=[
 ⟨some 2,.move (.c (.s (.bool false))),none⟩]
def T46_0:=hT R46_0 K46_0 [] 3 [] [] [.cc (.s (.bool false))]
def R46_1:List AOper:=[
 ⟨some 3,.move (.t 0),none⟩,
 ⟨some 4,.bin .eql (.t 3) (.c (.s (.int .u8 10))),none⟩,
 ⟨some 5,.move (.t 4),none⟩,
 ⟨some 6,.move (.t 0),some (5,false)⟩,
 ⟨some 7,.bin .eql (.t 6) (.c (.s (.int .u8 11))),some (5,false)⟩,
 ⟨some 8,.pick (.t 5) (.c (.s (.bool true))) (.t 7),none⟩,
 ⟨some 2,.move (.t 8),none⟩]
def T46_1:=hT R46_1 [0,3,4,5,6,7,8] [2] 9 [] [(2,(.pick (.op (.bin .eql (.t 0) (.c (.s (.int .u8 10)))) [(.t 0),(.c (.s (.int .u8 10)))]) (.c (.s (.bool true))) (.op (.bin .eql (.t 0) (.c (.s (.int .u8 11)))) [(.t 0),(.c (.s (.int .u8 11)))])))] [.tt 0,.sub 0 [0] [],.sub 0 [0] [],.sub 0 [2,0] [5],.sub 0 [2] [5],.sub 0 [] [],.sub 0 [] []]
def s_f46:ACFun:={ ntmps:=9,results:=[(.tmp 2)],body:=
 (.seq (.regionE R46_0 K46_0 [])
 (.seq (.regionE R46_1 [0,3,4,5,6,7,8] [2])
 .ret)) }
abbrev k_f47:Nat:=47
def K47_0:List Nat:=[0,1,2,4,5,6,7,8,9,10,11,12,13,14]
theorem A47_0_0:K47_0.contains 0=true:=by kernel_rfl
theorem A47_0_1:K47_0.contains 1=true:=by kernel_rfl
def A47_0_3:=hK K47_0 3
theorem A47_0_4:K47_0.contains 4=true:=by kernel_rfl
def R47_0t1:List AOper:=[⟨some 4,.move (.c (.s (.bool false))),none⟩]
def R47_0p0:List AOper:=[⟨some 3,.box (.t 1),none⟩]
def R47_0:List AOper:=R47_0p0 ++ R47_0t1
def X47_0:=hO R47_0 R47_0p0 R47_0t1 [0,1,2,4,5,6,7,8,9,10,11,12,13,14] K47_0 [⟨some 3,.box (.t 1),none⟩]
def T47_0t1:=hT R47_0t1 K47_0 [] 5 [] [] [.cc (.s (.bool false))]
def X47_0t1:=hL R47_0t1 K47_0 []
def R47_1:List AOper:=[
 ⟨some 5,.fieldAddr 2 (.t 3),none⟩,
 ⟨some 6,.load false 1 (.t 5),none⟩,
 ⟨some 7,.lenS .s (.t 6),none⟩,
 ⟨some 8,.bin .eql (.t 7) (.c (.s (.int .i64 0))),none⟩,
 ⟨some 9,.move (.t 8),none⟩,
 ⟨some 10,.fieldAddr 2 (.t 3),some (9,false)⟩,
 ⟨some 11,.load false 1 (.t 10),some (9,false)⟩,
 ⟨some 12,.lenS .s (.t 11),some (9,false)⟩,
 ⟨some 13,.bin .gtr (.t 12) (.c (.s (.int .i64 64))),some (9,false)⟩,
 ⟨some 14,.pick (.t 9) (.c (.s (.bool true))) (.t 13),none⟩,
 ⟨some 4,.move (.t 14),none⟩]
def T47_1:=hT R47_1 [3,5,6,7,8,9,10,11,12,13,14] [4] 15 [] [(4,(.pick (.op (.bin .eql (.t 0) (.c (.s (.int .i64 0)))) [(.op (.lenS .s (.t 0)) [(.op (.load false 1 (.t 0)) [(.op (.fieldAddr 2 (.t 0)) [(.t 3)])])]),(.c (.s (.int .i64 0)))]) (.c (.s (.bool true))) (.op (.bin .gtr (.t 0) (.c (.s (.int .i64 64)))) [(.op (.lenS .s (.t 0)) [(.op (.load false 1 (.t 0)) [(.op (.fieldAddr 2 (.t 0)) [(.t 3)])])]),(.c (.s (.int .i64 64)))])))] [.sub 0 [0,0,0,0] [],.sub 0 [0,0,0] [],.sub 0 [0,0] [],.sub 0 [0] [],.sub 0 [0] [],.sub 0 [2,0,0,0] [9],.sub 0 [2,0,0] [9],.sub 0 [2,0] [9],.sub 0 [2] [9],.sub 0 [] [],.sub 0 [] []]
def s_f47:ACFun:={ ntmps:=15,results:=[(.tmp 4)],body:=
 (.seq (.region R47_0 [] K47_0)
 (.seq (.regionE R47_1 [3,5,6,7,8,9,10,11,12,13,14] [4])
 .ret)) }
theorem s_f47_first:firstOk (List.range' 2 (s_f47.ntmps - 2)) s_f47.body=true:=by kernel_rfl
abbrev k_f48:Nat:=48
def K48_0:List Nat:=[1,2,6,7,8,9,10,11,12,13,14,15,16,17]
def A48_0_0:=hK K48_0 0
theorem A48_0_1:K48_0.contains 1=true:=by kernel_rfl
def A48_0_3:=hK K48_0 3
def A48_0_4:=hK K48_0 4
def A48_0_5:=hK K48_0 5
def R48_0t2:List AOper:=[⟨some 5,.alloc [(.s (.bool false))],none⟩]
def R48_0p1:List AOper:=[⟨some 4,.alloc [(.s (.int .i64 0)),(.s (.int .i64 0)),(.s (.int .i64 0))],none⟩]
def R48_0t1:List AOper:=R48_0p1 ++ R48_0t2
def R48_0p0:List AOper:=[⟨some 3,.box (.t 1),none⟩]
def R48_0:List AOper:=R48_0p0 ++ R48_0t1
def X48_0:=hO R48_0 R48_0p0 R48_0t1 [1,2,4,5,6,7,8,9,10,11,12,13,14,15,16,17] K48_0 [⟨some 3,.box (.t 1),none⟩]
def X48_0t1:=hO R48_0t1 R48_0p1 R48_0t2 [] K48_0 [⟨some 4,.alloc [(.s (.int .i64 0)),(.s (.int .i64 0)),(.s (.int .i64 0))],none⟩]
def X48_0t2:=hX R48_0t2 K48_0 [⟨some 5,.alloc [(.s (.bool false))],none⟩]
def R48_1t1:List AOper:=[⟨some 9,.call (.c (.fn 67 [] [])) [(.t 8)],none⟩]
def R48_1p0:List AOper:=[⟨some 8,.move (.t 0),none⟩]
def R48_1:List AOper:=R48_1p0 ++ R48_1t1
def T48_1p0:=hT R48_1p0 [0] [8] 9 [] [(8,(.t 0))] [.tt 0]
def X48_1:=hS R48_1 R48_1p0 R48_1t1 [0] [8] [0,8]
def X48_1t1:=hX R48_1t1 [0,8] [⟨some 9,.call (.c (.fn 67 [] [])) [(.t 8)],none⟩]
def R48_2t1:List AOper:=[⟨none,.store 3 (.t 6) (.t 10),none⟩]
def R48_2p0:List AOper:=[⟨some 6,.alloc [(.s (.int .i64 0)),(.s (.int .i64 0)),(.s (.int .i64 0))],none⟩]
def R48_2:List AOper:=R48_2p0 ++ R48_2t1
def X48_2:=hO R48_2 R48_2p0 R48_2t1 [9] [9,10] [⟨some 6,.alloc [(.s (.int .i64 0)),(.s (.int .i64 0)),(.s (.int .i64 0))],none⟩]
def X48_2t1:=hX R48_2t1 [9,10] [⟨none,.store 3 (.t 6) (.t 10),none⟩]
def R48_3t1:List AOper:=[⟨none,.store 8 (.t 7) (.t 11),none⟩]
def R48_3p0:List AOper:=[⟨some 7,.alloc [(.s (.int .u8 0)),(.s (.string ⟨#[]⟩)),(.s (.string ⟨#[]⟩)),(.s (.string ⟨#[]⟩)),(.s (.int .i64 0)),(.s (.string ⟨#[]⟩)),(.s (.slice none 0 0)),(.s (.slice none 0 0))],none⟩]
def R48_3:List AOper:=R48_3p0 ++ R48_3t1
def X48_3:=hO R48_3 R48_3p0 R48_3t1 [] [11] [⟨some 7,.alloc [(.s (.int .u8 0)),(.s (.string ⟨#[]⟩)),(.s (.string ⟨#[]⟩)),(.s (.string ⟨#[]⟩)),(.s (.int .i64 0)),(.s (.string ⟨#[]⟩)),(.s (.slice none 0 0)),(.s (.slice none 0 0))],none⟩]
def X48_3t1:=hX R48_3t1 [11] [⟨none,.store 8 (.t 7) (.t 11),none⟩]
def R48_4t1:List AOper:=[⟨some 15,.call (.t 12) [(.t 13),(.t 14)],none⟩]
def R48_4p0:List AOper:=[⟨some 12,.load false 1 (.t 3),none⟩,⟨some 13,.load true 3 (.t 6),none⟩,⟨some 14,.load true 8 (.t 7),none⟩]
def R48_4:List AOper:=R48_4p0 ++ R48_4t1
def T48_4p0:=hT R48_4p0 [3,7] [12,13,14] 15 [] [(12,(.op (.load false 1 (.t 0)) [(.t 3)])),(13,(.op (.load true 3 (.t 0)) [(.t 6)])),(14,(.op (.load true 8 (.t 0)) [(.t 7)]))] [.sub 0 [] [],.sub 1 [] [],.sub 2 [] []]
def X48_4:=hS R48_4 R48_4p0 R48_4t1 [3,7] [12,13,14] [3,7,12,13,14]
def X48_4t1:=hX R48_4t1 [3,7,12,13,14] [⟨some 15,.call (.t 12) [(.t 13),(.t 14)],none⟩]
def R48_5t2:List AOper:=[⟨none,.store 1 (.t 5) (.c (.s (.bool true))),none⟩]
def R48_5p1:List AOper:=[⟨none,.store 3 (.t 4) (.t 16),none⟩]
def R48_5t1:List AOper:=R48_5p1 ++ R48_5t2
def R48_5p0:List AOper:=[⟨some 16,.load true 3 (.t 6),none⟩]
def R48_5:List AOper:=R48_5p0 ++ R48_5t1
def T48_5p0:=hT R48_5p0 [6,15] [16] 17 [] [(16,(.op (.load true 3 (.t 0)) [(.t 6)]))] [.sub 0 [] []]
def X48_5:=hS R48_5 R48_5p0 R48_5t1 [6,15] [16] [4,5,6,15,16]
def X48_5t1:=hO R48_5t1 R48_5p1 R48_5t2 [4,16] [4,5,6,15,16] [⟨none,.store 3 (.t 4) (.t 16),none⟩]
def X48_5t2:=hX R48_5t2 [4,5,6,15,16] [⟨none,.store 1 (.t 5) (.c (.s (.bool true))),none⟩]
def s_names_walk_find_a0:ACode:=
 (.seq (.region R48_2 [] [9,10])
 (.region R48_3 [] [11]))
def s_f48_b0:ACode:=
 (.block 1
 (.seq (.region R48_4 [] [3,7,12,13,14])
 (.cond (.t 15)
 (.seq (.region R48_5 [] [4,5,6,15,16])
 .ret)
 .skip)))
def R48_6t2:List AOper:=[⟨none,.store 1 (.t 5) (.c (.s (.bool false))),none⟩]
def R48_6p1:List AOper:=[⟨none,.store 3 (.t 4) (.t 17),none⟩]
def R48_6t1:List AOper:=R48_6p1 ++ R48_6t2
def R48_6p0:List AOper:=[⟨some 17,.build [(.s (.int .i64 0)),(.s (.int .i64 0)),(.s (.int .i64 0))] [(0,1),(1,1),(2,1)] [],none⟩]
def R48_6:List AOper:=R48_6p0 ++ R48_6t1
def T48_6p0:=hT R48_6p0 [3,9] [17] 18 [] [(17,(.op (.build [(.s (.int .i64 0)),(.s (.int .i64 0)),(.s (.int .i64 0))] [(0,1),(1,1),(2,1)] []) []))] [.sub 0 [] []]
def X48_6:=hS R48_6 R48_6p0 R48_6t1 [3,9] [17] [3,9,17]
def X48_6t1:=hO R48_6t1 R48_6p1 R48_6t2 [17] [3,9,17] [⟨none,.store 3 (.t 4) (.t 17),none⟩]
def X48_6t2:=hX R48_6t2 [3,9,17] [⟨none,.store 1 (.t 5) (.c (.s (.bool false))),none⟩]
def s_f48:ACFun:={ ntmps:=18,results:=[(.cell 4 true 3),(.cell 5 false 1)],body:=
 (.seq (.region R48_0 [] K48_0)
 (.seq (.seq (.region R48_1 [] [0,8])
 (.block 0
 (.rangeFunc (.t 9) [10,11] s_names_walk_find_a0 s_f48_b0)))
 (.seq (.region R48_6 [] [3,9,17])
 .ret))) }
theorem s_f48_first:firstOk (List.range' 2 (s_f48.ntmps - 2)) s_f48.body=true:=by kernel_rfl
abbrev k_f49:Nat:=49
def K49_0:List Nat:=[0,1,3,4,5,6,7,8,9]
theorem A49_0_0:K49_0.contains 0=true:=by kernel_rfl
theorem A49_0_1:K49_0.contains 1=true:=by kernel_rfl
def A49_0_2:=hK K49_0 2
theorem A49_0_3:K49_0.contains 3=true:=by kernel_rfl
theorem A49_0_4:K49_0.contains 4=true:=by kernel_rfl
theorem A49_0_5:K49_0.contains 5=true:=by kernel_rfl
def R49_0t2:List AOper:=[⟨some 5,.move (.c (.s (.bool false))),none⟩]
def R49_0p1:List AOper:=[⟨some 4,.box (.t 1),none⟩]
def R49_0t1:List AOper:=R49_0p1 ++ R49_0t2
def R49_0p0:List AOper:=[⟨some 3,.box (.t 0),none⟩]
def R49_0:List AOper:=R49_0p0 ++ R49_0t1
def X49_0:=hO R49_0 R49_0p0 R49_0t1 [0,3,4,5,6,7,8,9] K49_0 [⟨some 3,.box (.t 0),none⟩]
def X49_0t1:=hO R49_0t1 R49_0p1 R49_0t2 [1,4] K49_0 [⟨some 4,.box (.t 1),none⟩]
def T49_0t2:=hT R49_0t2 K49_0 [] 6 [] [] [.cc (.s (.bool false))]
def X49_0t2:=hL R49_0t2 K49_0 []
def R49_1t1:List AOper:=[⟨none,.store 1 (.t 2) (.t 7),none⟩]
def R49_1p0:List AOper:=[⟨some 6,.load false 1 (.t 2),none⟩,⟨some 7,.bin .add (.t 6) (.c (.s (.int .i64 1))),none⟩]
def R49_1:List AOper:=R49_1p0 ++ R49_1t1
def T49_1p0:=hT R49_1p0 [6] [7] 8 [] [(7,(.op (.bin .add (.t 0) (.c (.s (.int .i64 1)))) [(.op (.load false 1 (.t 0)) [(.t 2)]),(.c (.s (.int .i64 1)))]))] [.sub 0 [0] [],.sub 0 [] []]
def X49_1:=hS R49_1 R49_1p0 R49_1t1 [6] [7] [6,7]
def X49_1t1:=hX R49_1t1 [6,7] [⟨none,.store 1 (.t 2) (.t 7),none⟩]
def R49_2:List AOper:=[
 ⟨some 8,.load false 1 (.t 2),none⟩,
 ⟨some 9,.bin .gtr (.t 8) (.c (.s (.int .i64 4096))),none⟩,
 ⟨some 5,.move (.t 9),none⟩]
def T49_2:=hT R49_2 [2,8,9] [5] 10 [] [(5,(.op (.bin .gtr (.t 0) (.c (.s (.int .i64 4096)))) [(.op (.load false 1 (.t 0)) [(.t 2)]),(.c (.s (.int .i64 4096)))]))] [.sub 0 [0] [],.sub 0 [] [],.sub 0 [] []]
def s_f49:ACFun:={ ntmps:=10,results:=[(.tmp 5)],body:=
 (.seq (.region R49_0 [] K49_0)
 (.seq (.region R49_1 [] [6,7])
 (.seq (.regionE R49_2 [2,8,9] [5])
 .ret))) }
theorem s_f49_first:firstOk (List.range' 3 (s_f49.ntmps - 3)) s_f49.body=true:=by kernel_rfl
abbrev k_f50:Nat:=50
def K50_0:List Nat:=[0,1,3,5,6,7,8,9,10,11,12,13,14,15,16,17,18,19,20,21,22,23,24,25,26,27,28,29,30,31,32,33,34,35,36,37,38,39,40,41,42,43,44,45,46,47,48,49,50,51,52,53,54,55,56,57,58,59,60,61,62,63,64,65,66,67,68,69,70,71,72,73,74,75,76,77,78,79,80,81,82,83,84,85,86,87,88,89,90,91,92,93,94,95,96,97,98,99,100,101,102,103,104,105,106,107,108,109,110,111,112,113,114,115,116,117,118,119,120,121,122,123,124,125,126,127,128,129,130,131,132,133,134,135,136,137,138,139,140,141,142,143,144,145,146,147,148,149,150,151,152,153,154,155,156,157,158,159,160,161,162,163,164,165,166,167,168,169,170,171,172,173,174,175,176,177,178,179,180,181,182,183,184,185,186]
theorem A50_0_0:K50_0.contains 0=true:=by kernel_rfl
theorem A50_0_1:K50_0.contains 1=true:=by kernel_rfl
def A50_0_2:=hK K50_0 2
theorem A50_0_3:K50_0.contains 3=true:=by kernel_rfl
def A50_0_4:=hK K50_0 4
theorem A50_0_5:K50_0.contains 5=true:=by kernel_rfl
def R50_0t2:List AOper:=[⟨some 5,.move (.c (.s (.bool false))),none⟩]
def R50_0p1:List AOper:=[⟨some 4,.box (.t 1),none⟩]
def R50_0t1:List AOper:=R50_0p1 ++ R50_0t2
def R50_0p0:List AOper:=[⟨some 3,.box (.t 0),none⟩]
def R50_0:List AOper:=R50_0p0 ++ R50_0t1
def K50_0p0:List Nat:=[0,3,4,5,6,7,8,9,10,11,12,13,14,15,16,17,18,19,20,21,22,23,24,25,26,27,28,29,30,31,32,33,34,35,36,37,38,39,40,41,42,43,44,45,46,47,48,49,50,51,52,53,54,55,56,57,58,59,60,61,62,63,64,65,66,67,68,69,70,71,72,73,74,75,76,77,78,79,80,81,82,83,84,85,86,87,88,89,90,91,92,93,94,95,96,97,98,99,100,101,102,103,104,105,106,107,108,109,110,111,112,113,114,115,116,117,118,119,120,121,122,123,124,125,126,127,128,129,130,131,132,133,134,135,136,137,138,139,140,141,142,143,144,145,146,147,148,149,150,151,152,153,154,155,156,157,158,159,160,161,162,163,164,165,166,167,168,169,170,171,172,173,174,175,176,177,178,179,180,181,182,183,184,185,186]
theorem A50_0p0_0:K50_0p0.contains 0=true:=by kernel_rfl
def A50_0p0_1:=hK K50_0p0 1
def A50_0p0_2:=hK K50_0p0 2
theorem A50_0p0_3:K50_0p0.contains 3=true:=by kernel_rfl
theorem A50_0p0_4:K50_0p0.contains 4=true:=by kernel_rfl
theorem A50_0p0_5:K50_0p0.contains 5=true:=by kernel_rfl
theorem X50_0 (call:CallF) (it:IterF) (base:Nat) (f:List V) (H:Heap):evC call it base (.region R50_0 [] K50_0) f H=thenC call it base (.region R50_0t1 [] K50_0) (opsC [] R50_0p0 K50_0p0 (evOps call base [⟨some 3,.box (.t 0),none⟩] f H)):=(row_op call it base R50_0p0 R50_0t1 (kc:=K50_0p0) (by kernel_rfl) f H).trans (by rw [row_ops];rfl)
def X50_0t1:=hO R50_0t1 R50_0p1 R50_0t2 [1] K50_0 [⟨some 4,.box (.t 1),none⟩]
def T50_0t2:=hT R50_0t2 K50_0 [] 6 [] [] [.cc (.s (.bool false))]
def X50_0t2:=hL R50_0t2 K50_0 []
def R50_1t3:List AOper:=[⟨some 7,.move (.t 17),none⟩]
def R50_1p2:List AOper:=[⟨none,.store 7 (.t 6) (.t 16),none⟩]
def R50_1t2:List AOper:=R50_1p2 ++ R50_1t3
def R50_1p1:List AOper:=[⟨some 6,.alloc [(.s (.bool false)),(.s (.bool false)),(.s (.bool false)),(.s (.bool false)),(.s (.bool false)),(.s (.bool false)),(.s (.bool false))],none⟩]
def R50_1t1:List AOper:=R50_1p1 ++ R50_1t2
def R50_1p0:List AOper:=[⟨some 9,.load false 1 (.t 2),none⟩,⟨some 10,.nilCheck (.t 9),none⟩,⟨some 11,.fieldAddr 1 (.t 10),none⟩,⟨some 12,.load false 1 (.t 11),none⟩,⟨some 13,.fieldAddr 0 (.t 4),none⟩,⟨some 14,.load false 1 (.t 13),none⟩,⟨some 15,.mapGet (.int .u8) (.agg [(.s (.bool false)),(.s (.bool false)),(.s (.bool false)),(.s (.bool false)),(.s (.bool false)),(.s (.bool false)),(.s (.bool false))]) (.t 12) (.t 14) true,none⟩,⟨some 8,.move (.t 15),none⟩,⟨some 16,.extract (.t 8) 0,none⟩,⟨some 17,.extract (.t 8) 1,none⟩]
def R50_1:List AOper:=R50_1p0 ++ R50_1t1
def T50_1p0:=hT R50_1p0 [2,8,9,10,11,12,13,14,15] [16,17] 18 [] [(16,(.op (.extract (.t 0) 0) [(.op (.mapGet (.int .u8) (.agg [(.s (.bool false)),(.s (.bool false)),(.s (.bool false)),(.s (.bool false)),(.s (.bool false)),(.s (.bool false)),(.s (.bool false))]) (.t 0) (.t 1) true) [(.op (.load false 1 (.t 0)) [(.op (.fieldAddr 1 (.t 0)) [(.op (.nilCheck (.t 0)) [(.op (.load false 1 (.t 0)) [(.t 2)])])])]),(.op (.load false 1 (.t 0)) [(.op (.fieldAddr 0 (.t 0)) [(.t 4)])])])])),(17,(.op (.extract (.t 0) 1) [(.op (.mapGet (.int .u8) (.agg [(.s (.bool false)),(.s (.bool false)),(.s (.bool false)),(.s (.bool false)),(.s (.bool false)),(.s (.bool false)),(.s (.bool false))]) (.t 0) (.t 1) true) [(.op (.load false 1 (.t 0)) [(.op (.fieldAddr 1 (.t 0)) [(.op (.nilCheck (.t 0)) [(.op (.load false 1 (.t 0)) [(.t 2)])])])]),(.op (.load false 1 (.t 0)) [(.op (.fieldAddr 0 (.t 0)) [(.t 4)])])])]))] [.sub 0 [0,0,0,0,0] [],.sub 0 [0,0,0,0] [],.sub 0 [0,0,0] [],.sub 0 [0,0] [],.sub 0 [0,1,0] [],.sub 0 [0,1] [],.sub 0 [0] [],.sub 0 [0] [],.sub 0 [] [],.sub 1 [] []]
def X50_1:=hS R50_1 R50_1p0 R50_1t1 [2,8,9,10,11,12,13,14,15] [16,17] [2,8,9,10,11,12,13,14,15,16,17]
def X50_1t1:=hO R50_1t1 R50_1p1 R50_1t2 [] [2,8,9,10,11,12,13,14,15,16,17] [⟨some 6,.alloc [(.s (.bool false)),(.s (.bool false)),(.s (.bool false)),(.s (.bool false)),(.s (.bool false)),(.s (.bool false)),(.s (.bool false))],none⟩]
def X50_1t2:=hO R50_1t2 R50_1p2 R50_1t3 [16] [2,8,9,10,11,12,13,14,15,16,17] [⟨none,.store 7 (.t 6) (.t 16),none⟩]
def T50_1t3:=hT R50_1t3 [2,8,9,10,11,12,13,14,15,16,17] [7] 8 [] [(7,(.t 17))] [.tt 17]
def X50_1t3:=hL R50_1t3 [2,8,9,10,11,12,13,14,15,16,17] [7]
def R50_2:List AOper:=[
 ⟨some 18,.move (.t 7),none⟩,
 ⟨some 19,.un .not (.t 18),none⟩,
 ⟨some 20,.move (.t 19),none⟩,
 ⟨some 21,.fieldAddr 0 (.t 6),some (20,false)⟩,
 ⟨some 22,.load false 1 (.t 21),some (20,false)⟩,
 ⟨some 23,.un .not (.t 22),some (20,false)⟩,
 ⟨some 24,.move (.t 23),some (20,false)⟩,
 ⟨some 25,.fieldAddr 1 (.t 4),some (24,true)⟩,
 ⟨some 26,.load false 1 (.t 25),some (24,true)⟩,
 ⟨some 27,.bin .neq (.t 26) (.c (.s (.string ⟨#[]⟩))),some (24,true)⟩,
 ⟨some 28,.pick (.t 24) (.t 27) (.c (.s (.bool false))),some (20,false)⟩,
 ⟨some 29,.pick (.t 20) (.c (.s (.bool true))) (.t 28),none⟩,
 ⟨some 30,.move (.t 29),none⟩,
 ⟨some 31,.fieldAddr 1 (.t 6),some (30,false)⟩,
 ⟨some 32,.load false 1 (.t 31),some (30,false)⟩,
 ⟨some 33,.un .not (.t 32),some (30,false)⟩,
 ⟨some 34,.move (.t 33),some (30,false)⟩,
 ⟨some 35,.fieldAddr 2 (.t 4),some (34,true)⟩,
 ⟨some 36,.load false 1 (.t 35),some (34,true)⟩,
 ⟨some 37,.bin .neq (.t 36) (.c (.s (.string ⟨#[]⟩))),some (34,true)⟩,
 ⟨some 38,.pick (.t 34) (.t 37) (.c (.s (.bool false))),some (30,false)⟩,
 ⟨some 39,.pick (.t 30) (.c (.s (.bool true))) (.t 38),none⟩,
 ⟨some 40,.move (.t 39),none⟩,
 ⟨some 41,.fieldAddr 2 (.t 6),some (40,false)⟩,
 ⟨some 42,.load false 1 (.t 41),some (40,false)⟩,
 ⟨some 43,.un .not (.t 42),some (40,false)⟩,
 ⟨some 44,.move (.t 43),some (40,false)⟩,
 ⟨some 45,.fieldAddr 3 (.t 4),some (44,true)⟩,
 ⟨some 46,.load false 1 (.t 45),some (44,true)⟩,
 ⟨some 47,.bin .neq (.t 46) (.c (.s (.string ⟨#[]⟩))),some (44,true)⟩,
 ⟨some 48,.pick (.t 44) (.t 47) (.c (.s (.bool false))),some (40,false)⟩,
 ⟨some 49,.pick (.t 40) (.c (.s (.bool true))) (.t 48),none⟩,
 ⟨some 50,.move (.t 49),none⟩,
 ⟨some 51,.fieldAddr 3 (.t 6),some (50,false)⟩,
 ⟨some 52,.load false 1 (.t 51),some (50,false)⟩,
 ⟨some 53,.un .not (.t 52),some (50,false)⟩,
 ⟨some 54,.move (.t 53),some (50,false)⟩,
 ⟨some 55,.fieldAddr 4 (.t 4),some (54,true)⟩,
 ⟨some 56,.load false 1 (.t 55),some (54,true)⟩,
 ⟨some 57,.bin .neq (.t 56) (.c (.s (.int .i64 0))),some (54,true)⟩,
 ⟨some 58,.pick (.t 54) (.t 57) (.c (.s (.bool false))),some (50,false)⟩,
 ⟨some 59,.pick (.t 50) (.c (.s (.bool true))) (.t 58),none⟩,
 ⟨some 60,.move (.t 59),none⟩,
 ⟨some 61,.fieldAddr 4 (.t 6),some (60,false)⟩,
 ⟨some 62,.load false 1 (.t 61),some (60,false)⟩,
 ⟨some 63,.un .not (.t 62),some (60,false)⟩,
 ⟨some 64,.move (.t 63),some (60,false)⟩,
 ⟨some 65,.fieldAddr 5 (.t 4),some (64,true)⟩,
 ⟨some 66,.load false 1 (.t 65),some (64,true)⟩,
 ⟨some 67,.bin .neq (.t 66) (.c (.s (.string ⟨#[]⟩))),some (64,true)⟩,
 ⟨some 68,.pick (.t 64) (.t 67) (.c (.s (.bool false))),some (60,false)⟩,
 ⟨some 69,.pick (.t 60) (.c (.s (.bool true))) (.t 68),none⟩,
 ⟨some 70,.move (.t 69),none⟩,
 ⟨some 71,.fieldAddr 5 (.t 6),some (70,false)⟩,
 ⟨some 72,.load false 1 (.t 71),some (70,false)⟩,
 ⟨some 73,.un .not (.t 72),some (70,false)⟩,
 ⟨some 74,.move (.t 73),some (70,false)⟩,
 ⟨some 75,.fieldAddr 6 (.t 4),some (74,true)⟩,
 ⟨some 76,.load false 1 (.t 75),some (74,true)⟩,
 ⟨some 77,.lenS .s (.t 76),some (74,true)⟩,
 ⟨some 78,.bin .gtr (.t 77) (.c (.s (.int .i64 0))),some (74,true)⟩,
 ⟨some 79,.pick (.t 74) (.t 78) (.c (.s (.bool false))),some (70,false)⟩,
 ⟨some 80,.pick (.t 70) (.c (.s (.bool true))) (.t 79),none⟩,
 ⟨some 81,.move (.t 80),none⟩,
 ⟨some 82,.fieldAddr 6 (.t 6),some (81,false)⟩,
 ⟨some 83,.load false 1 (.t 82),some (81,false)⟩,
 ⟨some 84,.un .not (.t 83),some (81,false)⟩,
 ⟨some 85,.move (.t 84),some (81,false)⟩,
 ⟨some 86,.fieldAddr 7 (.t 4),some (85,true)⟩,
 ⟨some 87,.load false 1 (.t 86),some (85,true)⟩,
 ⟨some 88,.lenS .s (.t 87),some (85,true)⟩,
 ⟨some 89,.bin .gtr (.t 88) (.c (.s (.int .i64 0))),some (85,true)⟩,
 ⟨some 90,.pick (.t 85) (.t 89) (.c (.s (.bool false))),some (81,false)⟩,
 ⟨some 91,.pick (.t 81) (.c (.s (.bool true))) (.t 90),none⟩]
def T50_2:=hT R50_2 [7,18,19,20,21,22,23,24,25,26,27,28,29,30,31,32,33,34,35,36,37,38,39,40,41,42,43,44,45,46,47,48,49,50,51,52,53,54,55,56,57,58,59,60,61,62,63,64,65,66,67,68,69,70,71,72,73,74,75,76,77,78,79,80,81,82,83,84,85,86,87,88,89,90] [91] 92 [] [(91,(.pick (.pick (.pick (.pick (.pick (.pick (.pick (.op (.un .not (.t 0)) [(.t 7)]) (.c (.s (.bool true))) (.pick (.op (.un .not (.t 0)) [(.op (.load false 1 (.t 0)) [(.op (.fieldAddr 0 (.t 0)) [(.t 6)])])]) (.op (.bin .neq (.t 0) (.c (.s (.string ⟨#[]⟩)))) [(.op (.load false 1 (.t 0)) [(.op (.fieldAddr 1 (.t 0)) [(.t 4)])]),(.c (.s (.string ⟨#[]⟩)))]) (.c (.s (.bool false))))) (.c (.s (.bool true))) (.pick (.op (.un .not (.t 0)) [(.op (.load false 1 (.t 0)) [(.op (.fieldAddr 1 (.t 0)) [(.t 6)])])]) (.op (.bin .neq (.t 0) (.c (.s (.string ⟨#[]⟩)))) [(.op (.load false 1 (.t 0)) [(.op (.fieldAddr 2 (.t 0)) [(.t 4)])]),(.c (.s (.string ⟨#[]⟩)))]) (.c (.s (.bool false))))) (.c (.s (.bool true))) (.pick (.op (.un .not (.t 0)) [(.op (.load false 1 (.t 0)) [(.op (.fieldAddr 2 (.t 0)) [(.t 6)])])]) (.op (.bin .neq (.t 0) (.c (.s (.string ⟨#[]⟩)))) [(.op (.load false 1 (.t 0)) [(.op (.fieldAddr 3 (.t 0)) [(.t 4)])]),(.c (.s (.string ⟨#[]⟩)))]) (.c (.s (.bool false))))) (.c (.s (.bool true))) (.pick (.op (.un .not (.t 0)) [(.op (.load false 1 (.t 0)) [(.op (.fieldAddr 3 (.t 0)) [(.t 6)])])]) (.op (.bin .neq (.t 0) (.c (.s (.int .i64 0)))) [(.op (.load false 1 (.t 0)) [(.op (.fieldAddr 4 (.t 0)) [(.t 4)])]),(.c (.s (.int .i64 0)))]) (.c (.s (.bool false))))) (.c (.s (.bool true))) (.pick (.op (.un .not (.t 0)) [(.op (.load false 1 (.t 0)) [(.op (.fieldAddr 4 (.t 0)) [(.t 6)])])]) (.op (.bin .neq (.t 0) (.c (.s (.string ⟨#[]⟩)))) [(.op (.load false 1 (.t 0)) [(.op (.fieldAddr 5 (.t 0)) [(.t 4)])]),(.c (.s (.string ⟨#[]⟩)))]) (.c (.s (.bool false))))) (.c (.s (.bool true))) (.pick (.op (.un .not (.t 0)) [(.op (.load false 1 (.t 0)) [(.op (.fieldAddr 5 (.t 0)) [(.t 6)])])]) (.op (.bin .gtr (.t 0) (.c (.s (.int .i64 0)))) [(.op (.lenS .s (.t 0)) [(.op (.load false 1 (.t 0)) [(.op (.fieldAddr 6 (.t 0)) [(.t 4)])])]),(.c (.s (.int .i64 0)))]) (.c (.s (.bool false))))) (.c (.s (.bool true))) (.pick (.op (.un .not (.t 0)) [(.op (.load false 1 (.t 0)) [(.op (.fieldAddr 6 (.t 0)) [(.t 6)])])]) (.op (.bin .gtr (.t 0) (.c (.s (.int .i64 0)))) [(.op (.lenS .s (.t 0)) [(.op (.load false 1 (.t 0)) [(.op (.fieldAddr 7 (.t 0)) [(.t 4)])])]),(.c (.s (.int .i64 0)))]) (.c (.s (.bool false))))))] [.tt 7,.sub 0 [0,0,0,0,0,0,0] [],.sub 0 [0,0,0,0,0,0,0] [],.sub 0 [0,0,0,0,0,0,2,0,0,0] [20],.sub 0 [0,0,0,0,0,0,2,0,0] [20],.sub 0 [0,0,0,0,0,0,2,0] [20],.sub 0 [0,0,0,0,0,0,2,0] [20],.sub 0 [0,0,0,0,0,0,2,1,0,0] [20,24],.sub 0 [0,0,0,0,0,0,2,1,0] [20,24],.sub 0 [0,0,0,0,0,0,2,1] [20,24],.sub 0 [0,0,0,0,0,0,2] [20],.sub 0 [0,0,0,0,0,0] [],.sub 0 [0,0,0,0,0,0] [],.sub 0 [0,0,0,0,0,2,0,0,0] [30],.sub 0 [0,0,0,0,0,2,0,0] [30],.sub 0 [0,0,0,0,0,2,0] [30],.sub 0 [0,0,0,0,0,2,0] [30],.sub 0 [0,0,0,0,0,2,1,0,0] [30,34],.sub 0 [0,0,0,0,0,2,1,0] [30,34],.sub 0 [0,0,0,0,0,2,1] [30,34],.sub 0 [0,0,0,0,0,2] [30],.sub 0 [0,0,0,0,0] [],.sub 0 [0,0,0,0,0] [],.sub 0 [0,0,0,0,2,0,0,0] [40],.sub 0 [0,0,0,0,2,0,0] [40],.sub 0 [0,0,0,0,2,0] [40],.sub 0 [0,0,0,0,2,0] [40],.sub 0 [0,0,0,0,2,1,0,0] [40,44],.sub 0 [0,0,0,0,2,1,0] [40,44],.sub 0 [0,0,0,0,2,1] [40,44],.sub 0 [0,0,0,0,2] [40],.sub 0 [0,0,0,0] [],.sub 0 [0,0,0,0] [],.sub 0 [0,0,0,2,0,0,0] [50],.sub 0 [0,0,0,2,0,0] [50],.sub 0 [0,0,0,2,0] [50],.sub 0 [0,0,0,2,0] [50],.sub 0 [0,0,0,2,1,0,0] [50,54],.sub 0 [0,0,0,2,1,0] [50,54],.sub 0 [0,0,0,2,1] [50,54],.sub 0 [0,0,0,2] [50],.sub 0 [0,0,0] [],.sub 0 [0,0,0] [],.sub 0 [0,0,2,0,0,0] [60],.sub 0 [0,0,2,0,0] [60],.sub 0 [0,0,2,0] [60],.sub 0 [0,0,2,0] [60],.sub 0 [0,0,2,1,0,0] [60,64],.sub 0 [0,0,2,1,0] [60,64],.sub 0 [0,0,2,1] [60,64],.sub 0 [0,0,2] [60],.sub 0 [0,0] [],.sub 0 [0,0] [],.sub 0 [0,2,0,0,0] [70],.sub 0 [0,2,0,0] [70],.sub 0 [0,2,0] [70],.sub 0 [0,2,0] [70],.sub 0 [0,2,1,0,0,0] [70,74],.sub 0 [0,2,1,0,0] [70,74],.sub 0 [0,2,1,0] [70,74],.sub 0 [0,2,1] [70,74],.sub 0 [0,2] [70],.sub 0 [0] [],.sub 0 [0] [],.sub 0 [2,0,0,0] [81],.sub 0 [2,0,0] [81],.sub 0 [2,0] [81],.sub 0 [2,0] [81],.sub 0 [2,1,0,0,0] [81,85],.sub 0 [2,1,0,0] [81,85],.sub 0 [2,1,0] [81,85],.sub 0 [2,1] [81,85],.sub 0 [2] [81],.sub 0 [] []]
def R50_3:List AOper:=[
 ⟨some 5,.move (.c (.s (.bool true))),none⟩]
def T50_3:=hT R50_3 [4,6,91] [5] 6 [] [(5,(.c (.s (.bool true))))] [.cc (.s (.bool true))]
def R50_4t4:List AOper:=[⟨some 103,.un .not (.t 102),some (99,true)⟩,⟨some 104,.pick (.t 99) (.t 103) (.c (.s (.bool false))),none⟩,⟨some 105,.move (.t 104),none⟩,⟨some 106,.fieldAddr 1 (.t 6),some (105,false)⟩,⟨some 107,.load false 1 (.t 106),some (105,false)⟩,⟨some 108,.move (.t 107),some (105,false)⟩,⟨some 109,.fieldAddr 2 (.t 4),some (108,true)⟩,⟨some 110,.load false 1 (.t 109),some (108,true)⟩,⟨some 111,.bin .eql (.t 110) (.c (.s (.string ⟨#[]⟩))),some (108,true)⟩,⟨some 112,.pick (.t 108) (.t 111) (.c (.s (.bool false))),some (105,false)⟩,⟨some 113,.move (.t 112),some (105,false)⟩,⟨some 114,.fieldAddr 0 (.t 4),some (113,true)⟩,⟨some 115,.load false 1 (.t 114),some (113,true)⟩,⟨some 116,.bin .neq (.t 115) (.c (.s (.int .u8 14))),some (113,true)⟩,⟨some 117,.pick (.t 113) (.t 116) (.c (.s (.bool false))),some (105,false)⟩,⟨some 118,.pick (.t 105) (.c (.s (.bool true))) (.t 117),none⟩,⟨some 119,.move (.t 118),none⟩,⟨some 120,.fieldAddr 2 (.t 6),some (119,false)⟩,⟨some 121,.load false 1 (.t 120),some (119,false)⟩,⟨some 122,.move (.t 121),some (119,false)⟩,⟨some 123,.fieldAddr 3 (.t 4),some (122,true)⟩,⟨some 124,.load false 1 (.t 123),some (122,true)⟩,⟨some 125,.bin .eql (.t 124) (.c (.s (.string ⟨#[]⟩))),some (122,true)⟩,⟨some 126,.pick (.t 122) (.t 125) (.c (.s (.bool false))),some (119,false)⟩,⟨some 127,.pick (.t 119) (.c (.s (.bool true))) (.t 126),none⟩,⟨some 128,.move (.t 127),none⟩,⟨some 129,.fieldAddr 4 (.t 6),some (128,false)⟩,⟨some 130,.load false 1 (.t 129),some (128,false)⟩,⟨some 131,.move (.t 130),some (128,false)⟩,⟨some 132,.fieldAddr 5 (.t 4),some (131,true)⟩,⟨some 133,.load false 1 (.t 132),some (131,true)⟩,⟨some 134,.bin .eql (.t 133) (.c (.s (.string ⟨#[]⟩))),some (131,true)⟩,⟨some 135,.pick (.t 131) (.t 134) (.c (.s (.bool false))),some (128,false)⟩,⟨some 136,.pick (.t 128) (.c (.s (.bool true))) (.t 135),none⟩]
def R50_4p3:List AOper:=[⟨some 102,.call (.c (.fn 46 [] [])) [(.t 101)],some (99,true)⟩]
def R50_4t3:List AOper:=R50_4p3 ++ R50_4t4
def R50_4p2:List AOper:=[⟨some 101,.load false 1 (.t 100),some (99,true)⟩]
def R50_4t2:List AOper:=R50_4p2 ++ R50_4t3
def R50_4p1:List AOper:=[⟨some 100,.fieldAddr 0 (.t 4),some (99,true)⟩]
def R50_4t1:List AOper:=R50_4p1 ++ R50_4t2
def R50_4p0:List AOper:=[⟨some 92,.fieldAddr 0 (.t 6),none⟩,⟨some 93,.load false 1 (.t 92),none⟩,⟨some 94,.move (.t 93),none⟩,⟨some 95,.fieldAddr 1 (.t 4),some (94,true)⟩,⟨some 96,.load false 1 (.t 95),some (94,true)⟩,⟨some 97,.bin .eql (.t 96) (.c (.s (.string ⟨#[]⟩))),some (94,true)⟩,⟨some 98,.pick (.t 94) (.t 97) (.c (.s (.bool false))),none⟩,⟨some 99,.move (.t 98),none⟩]
def R50_4:List AOper:=R50_4p0 ++ R50_4t1
def T50_4p0:=hT R50_4p0 [91,92,93,94,95,96,97,98] [99] 100 [] [(99,(.pick (.op (.load false 1 (.t 0)) [(.op (.fieldAddr 0 (.t 0)) [(.t 6)])]) (.op (.bin .eql (.t 0) (.c (.s (.string ⟨#[]⟩)))) [(.op (.load false 1 (.t 0)) [(.op (.fieldAddr 1 (.t 0)) [(.t 4)])]),(.c (.s (.string ⟨#[]⟩)))]) (.c (.s (.bool false)))))] [.sub 0 [0,0] [],.sub 0 [0] [],.sub 0 [0] [],.sub 0 [1,0,0] [94],.sub 0 [1,0] [94],.sub 0 [1] [94],.sub 0 [] [],.sub 0 [] []]
def X50_4:=hS R50_4 R50_4p0 R50_4t1 [91,92,93,94,95,96,97,98] [99] [6,91,92,93,94,95,96,97,98,99,100,101,102,103,104,105,106,107,108,109,110,111,112,113,114,115,116,117,118,119,120,121,122,123,124,125,126,127,128,129,130,131,132,133,134,135]
def X50_4t1:=hO R50_4t1 R50_4p1 R50_4t2 [] [6,91,92,93,94,95,96,97,98,99,100,101,102,103,104,105,106,107,108,109,110,111,112,113,114,115,116,117,118,119,120,121,122,123,124,125,126,127,128,129,130,131,132,133,134,135] [⟨some 100,.fieldAddr 0 (.t 4),some (99,true)⟩]
def X50_4t2:=hO R50_4t2 R50_4p2 R50_4t3 [100] [6,91,92,93,94,95,96,97,98,99,100,101,102,103,104,105,106,107,108,109,110,111,112,113,114,115,116,117,118,119,120,121,122,123,124,125,126,127,128,129,130,131,132,133,134,135] [⟨some 101,.load false 1 (.t 100),some (99,true)⟩]
def X50_4t3:=hO R50_4t3 R50_4p3 R50_4t4 [101] [6,91,92,93,94,95,96,97,98,99,100,101,102,103,104,105,106,107,108,109,110,111,112,113,114,115,116,117,118,119,120,121,122,123,124,125,126,127,128,129,130,131,132,133,134,135] [⟨some 102,.call (.c (.fn 46 [] [])) [(.t 101)],some (99,true)⟩]
def T50_4t4:=hT R50_4t4 [6,91,92,93,94,95,96,97,98,99,100,101,102,103,104,105,106,107,108,109,110,111,112,113,114,115,116,117,118,119,120,121,122,123,124,125,126,127,128,129,130,131,132,133,134,135] [136] 137 [] [(136,(.pick (.pick (.pick (.pick (.t 99) (.op (.un .not (.t 0)) [(.t 102)]) (.c (.s (.bool false)))) (.c (.s (.bool true))) (.pick (.pick (.op (.load false 1 (.t 0)) [(.op (.fieldAddr 1 (.t 0)) [(.t 6)])]) (.op (.bin .eql (.t 0) (.c (.s (.string ⟨#[]⟩)))) [(.op (.load false 1 (.t 0)) [(.op (.fieldAddr 2 (.t 0)) [(.t 4)])]),(.c (.s (.string ⟨#[]⟩)))]) (.c (.s (.bool false)))) (.op (.bin .neq (.t 0) (.c (.s (.int .u8 14)))) [(.op (.load false 1 (.t 0)) [(.op (.fieldAddr 0 (.t 0)) [(.t 4)])]),(.c (.s (.int .u8 14)))]) (.c (.s (.bool false))))) (.c (.s (.bool true))) (.pick (.op (.load false 1 (.t 0)) [(.op (.fieldAddr 2 (.t 0)) [(.t 6)])]) (.op (.bin .eql (.t 0) (.c (.s (.string ⟨#[]⟩)))) [(.op (.load false 1 (.t 0)) [(.op (.fieldAddr 3 (.t 0)) [(.t 4)])]),(.c (.s (.string ⟨#[]⟩)))]) (.c (.s (.bool false))))) (.c (.s (.bool true))) (.pick (.op (.load false 1 (.t 0)) [(.op (.fieldAddr 4 (.t 0)) [(.t 6)])]) (.op (.bin .eql (.t 0) (.c (.s (.string ⟨#[]⟩)))) [(.op (.load false 1 (.t 0)) [(.op (.fieldAddr 5 (.t 0)) [(.t 4)])]),(.c (.s (.string ⟨#[]⟩)))]) (.c (.s (.bool false))))))] [.sub 0 [0,0,0,1] [99],.sub 0 [0,0,0] [],.sub 0 [0,0,0] [],.sub 0 [0,0,2,0,0,0] [105],.sub 0 [0,0,2,0,0] [105],.sub 0 [0,0,2,0,0] [105],.sub 0 [0,0,2,0,1,0,0] [105,108],.sub 0 [0,0,2,0,1,0] [105,108],.sub 0 [0,0,2,0,1] [105,108],.sub 0 [0,0,2,0] [105],.sub 0 [0,0,2,0] [105],.sub 0 [0,0,2,1,0,0] [105,113],.sub 0 [0,0,2,1,0] [105,113],.sub 0 [0,0,2,1] [105,113],.sub 0 [0,0,2] [105],.sub 0 [0,0] [],.sub 0 [0,0] [],.sub 0 [0,2,0,0] [119],.sub 0 [0,2,0] [119],.sub 0 [0,2,0] [119],.sub 0 [0,2,1,0,0] [119,122],.sub 0 [0,2,1,0] [119,122],.sub 0 [0,2,1] [119,122],.sub 0 [0,2] [119],.sub 0 [0] [],.sub 0 [0] [],.sub 0 [2,0,0] [128],.sub 0 [2,0] [128],.sub 0 [2,0] [128],.sub 0 [2,1,0,0] [128,131],.sub 0 [2,1,0] [128,131],.sub 0 [2,1] [128,131],.sub 0 [2] [128],.sub 0 [] []]
def X50_4t4:=hL R50_4t4 [6,91,92,93,94,95,96,97,98,99,100,101,102,103,104,105,106,107,108,109,110,111,112,113,114,115,116,117,118,119,120,121,122,123,124,125,126,127,128,129,130,131,132,133,134,135] [136]
def R50_5:List AOper:=[
 ⟨some 5,.move (.c (.s (.bool true))),none⟩]
def T50_5:=hT R50_5 [4,136] [5] 6 [] [(5,(.c (.s (.bool true))))] [.cc (.s (.bool true))]
def R50_6:List AOper:=[
 ⟨some 137,.fieldAddr 0 (.t 4),none⟩,
 ⟨some 138,.load false 1 (.t 137),none⟩]
def T50_6:=hT R50_6 [136,137] [138] 139 [] [(138,(.op (.load false 1 (.t 0)) [(.op (.fieldAddr 0 (.t 0)) [(.t 4)])]))] [.sub 0 [0] [],.sub 0 [] []]
def R50_7:List AOper:=[
 ⟨some 140,.bin .eql (.t 138) (.c (.s (.int .u8 1))),none⟩,
 ⟨some 139,.move (.t 140),none⟩]
def T50_7:=hT R50_7 [140] [139] 141 [] [(139,(.op (.bin .eql (.t 0) (.c (.s (.int .u8 1)))) [(.t 138),(.c (.s (.int .u8 1)))]))] [.sub 0 [] [],.sub 0 [] []]
def R50_8:List AOper:=[
 ⟨some 141,.bin .eql (.t 138) (.c (.s (.int .u8 2))),none⟩,
 ⟨some 139,.move (.t 141),none⟩]
def T50_8:=hT R50_8 [141] [139] 142 [] [(139,(.op (.bin .eql (.t 0) (.c (.s (.int .u8 2)))) [(.t 138),(.c (.s (.int .u8 2)))]))] [.sub 0 [] [],.sub 0 [] []]
def R50_9:List AOper:=[
 ⟨some 142,.fieldAddr 4 (.t 4),none⟩,
 ⟨some 143,.load false 1 (.t 142),none⟩,
 ⟨some 144,.bin .lss (.t 143) (.c (.s (.int .i64 1))),none⟩,
 ⟨some 145,.move (.t 144),none⟩,
 ⟨some 146,.fieldAddr 4 (.t 4),some (145,false)⟩,
 ⟨some 147,.load false 1 (.t 146),some (145,false)⟩,
 ⟨some 148,.bin .gtr (.t 147) (.c (.s (.int .i64 64))),some (145,false)⟩,
 ⟨some 149,.pick (.t 145) (.c (.s (.bool true))) (.t 148),none⟩,
 ⟨some 5,.move (.t 149),none⟩]
def T50_9:=hT R50_9 [4,138,139,142,143,144,145,146,147,148,149] [5] 150 [] [(5,(.pick (.op (.bin .lss (.t 0) (.c (.s (.int .i64 1)))) [(.op (.load false 1 (.t 0)) [(.op (.fieldAddr 4 (.t 0)) [(.t 4)])]),(.c (.s (.int .i64 1)))]) (.c (.s (.bool true))) (.op (.bin .gtr (.t 0) (.c (.s (.int .i64 64)))) [(.op (.load false 1 (.t 0)) [(.op (.fieldAddr 4 (.t 0)) [(.t 4)])]),(.c (.s (.int .i64 64)))])))] [.sub 0 [0,0,0] [],.sub 0 [0,0] [],.sub 0 [0] [],.sub 0 [0] [],.sub 0 [2,0,0] [145],.sub 0 [2,0] [145],.sub 0 [2] [145],.sub 0 [] [],.sub 0 [] []]
def R50_10:List AOper:=[
 ⟨some 151,.bin .eql (.t 138) (.c (.s (.int .u8 7))),none⟩,
 ⟨some 150,.move (.t 151),none⟩]
def T50_10:=hT R50_10 [139,151] [150] 152 [] [(150,(.op (.bin .eql (.t 0) (.c (.s (.int .u8 7)))) [(.t 138),(.c (.s (.int .u8 7)))]))] [.sub 0 [] [],.sub 0 [] []]
def R50_11:List AOper:=[
 ⟨some 152,.fieldAddr 4 (.t 4),none⟩,
 ⟨some 153,.load false 1 (.t 152),none⟩,
 ⟨some 154,.bin .lss (.t 153) (.c (.s (.int .i64 0))),none⟩,
 ⟨some 155,.move (.t 154),none⟩,
 ⟨some 156,.fieldAddr 4 (.t 4),some (155,false)⟩,
 ⟨some 157,.load false 1 (.t 156),some (155,false)⟩,
 ⟨some 158,.bin .geq (.t 157) (.c (.s (.int .i64 64))),some (155,false)⟩,
 ⟨some 159,.pick (.t 155) (.c (.s (.bool true))) (.t 158),none⟩,
 ⟨some 5,.move (.t 159),none⟩]
def T50_11:=hT R50_11 [4,138,150,152,153,154,155,156,157,158,159] [5] 160 [] [(5,(.pick (.op (.bin .lss (.t 0) (.c (.s (.int .i64 0)))) [(.op (.load false 1 (.t 0)) [(.op (.fieldAddr 4 (.t 0)) [(.t 4)])]),(.c (.s (.int .i64 0)))]) (.c (.s (.bool true))) (.op (.bin .geq (.t 0) (.c (.s (.int .i64 64)))) [(.op (.load false 1 (.t 0)) [(.op (.fieldAddr 4 (.t 0)) [(.t 4)])]),(.c (.s (.int .i64 64)))])))] [.sub 0 [0,0,0] [],.sub 0 [0,0] [],.sub 0 [0] [],.sub 0 [0] [],.sub 0 [2,0,0] [155],.sub 0 [2,0] [155],.sub 0 [2] [155],.sub 0 [] [],.sub 0 [] []]
def R50_12:List AOper:=[
 ⟨some 161,.bin .eql (.t 138) (.c (.s (.int .u8 6))),none⟩,
 ⟨some 160,.move (.t 161),none⟩]
def T50_12:=hT R50_12 [150,161] [160] 162 [] [(160,(.op (.bin .eql (.t 0) (.c (.s (.int .u8 6)))) [(.t 138),(.c (.s (.int .u8 6)))]))] [.sub 0 [] [],.sub 0 [] []]
def R50_13:List AOper:=[
 ⟨some 162,.fieldAddr 6 (.t 4),none⟩,
 ⟨some 163,.load false 1 (.t 162),none⟩,
 ⟨some 164,.lenS .s (.t 163),none⟩,
 ⟨some 165,.bin .eql (.t 164) (.c (.s (.int .i64 0))),none⟩,
 ⟨some 166,.move (.t 165),none⟩,
 ⟨some 167,.fieldAddr 6 (.t 4),some (166,false)⟩,
 ⟨some 168,.load false 1 (.t 167),some (166,false)⟩,
 ⟨some 169,.lenS .s (.t 168),some (166,false)⟩,
 ⟨some 170,.fieldAddr 7 (.t 4),some (166,false)⟩,
 ⟨some 171,.load false 1 (.t 170),some (166,false)⟩,
 ⟨some 172,.lenS .s (.t 171),some (166,false)⟩,
 ⟨some 173,.bin .neq (.t 169) (.t 172),some (166,false)⟩,
 ⟨some 174,.pick (.t 166) (.c (.s (.bool true))) (.t 173),none⟩,
 ⟨some 5,.move (.t 174),none⟩]
def T50_13:=hT R50_13 [4,138,160,162,163,164,165,166,167,168,169,170,171,172,173,174] [5] 175 [] [(5,(.pick (.op (.bin .eql (.t 0) (.c (.s (.int .i64 0)))) [(.op (.lenS .s (.t 0)) [(.op (.load false 1 (.t 0)) [(.op (.fieldAddr 6 (.t 0)) [(.t 4)])])]),(.c (.s (.int .i64 0)))]) (.c (.s (.bool true))) (.op (.bin .neq (.t 0) (.t 1)) [(.op (.lenS .s (.t 0)) [(.op (.load false 1 (.t 0)) [(.op (.fieldAddr 6 (.t 0)) [(.t 4)])])]),(.op (.lenS .s (.t 0)) [(.op (.load false 1 (.t 0)) [(.op (.fieldAddr 7 (.t 0)) [(.t 4)])])])])))] [.sub 0 [0,0,0,0] [],.sub 0 [0,0,0] [],.sub 0 [0,0] [],.sub 0 [0] [],.sub 0 [0] [],.sub 0 [2,0,0,0] [166],.sub 0 [2,0,0] [166],.sub 0 [2,0] [166],.sub 0 [2,1,0,0] [166],.sub 0 [2,1,0] [166],.sub 0 [2,1] [166],.sub 0 [2] [166],.sub 0 [] [],.sub 0 [] []]
def R50_14:List AOper:=[
 ⟨some 176,.bin .eql (.t 138) (.c (.s (.int .u8 12))),none⟩,
 ⟨some 175,.move (.t 176),none⟩]
def T50_14:=hT R50_14 [160,176] [175] 177 [] [(175,(.op (.bin .eql (.t 0) (.c (.s (.int .u8 12)))) [(.t 138),(.c (.s (.int .u8 12)))]))] [.sub 0 [] [],.sub 0 [] []]
def R50_15:List AOper:=[
 ⟨some 177,.fieldAddr 7 (.t 4),none⟩,
 ⟨some 178,.load false 1 (.t 177),none⟩,
 ⟨some 179,.lenS .s (.t 178),none⟩,
 ⟨some 180,.bin .neq (.t 179) (.c (.s (.int .i64 2))),none⟩,
 ⟨some 5,.move (.t 180),none⟩]
def T50_15:=hT R50_15 [4,138,175,177,178,179,180] [5] 181 [] [(5,(.op (.bin .neq (.t 0) (.c (.s (.int .i64 2)))) [(.op (.lenS .s (.t 0)) [(.op (.load false 1 (.t 0)) [(.op (.fieldAddr 7 (.t 0)) [(.t 4)])])]),(.c (.s (.int .i64 2)))]))] [.sub 0 [0,0,0] [],.sub 0 [0,0] [],.sub 0 [0] [],.sub 0 [] [],.sub 0 [] []]
def R50_16:List AOper:=[
 ⟨some 182,.bin .eql (.t 138) (.c (.s (.int .u8 13))),none⟩,
 ⟨some 181,.move (.t 182),none⟩]
def T50_16:=hT R50_16 [138,175,182] [181] 183 [] [(181,(.op (.bin .eql (.t 0) (.c (.s (.int .u8 13)))) [(.t 138),(.c (.s (.int .u8 13)))]))] [.sub 0 [] [],.sub 0 [] []]
def R50_17:List AOper:=[
 ⟨some 183,.fieldAddr 7 (.t 4),none⟩,
 ⟨some 184,.load false 1 (.t 183),none⟩,
 ⟨some 185,.lenS .s (.t 184),none⟩,
 ⟨some 186,.bin .neq (.t 185) (.c (.s (.int .i64 1))),none⟩,
 ⟨some 5,.move (.t 186),none⟩]
def T50_17:=hT R50_17 [4,181,183,184,185,186] [5] 187 [] [(5,(.op (.bin .neq (.t 0) (.c (.s (.int .i64 1)))) [(.op (.lenS .s (.t 0)) [(.op (.load false 1 (.t 0)) [(.op (.fieldAddr 7 (.t 0)) [(.t 4)])])]),(.c (.s (.int .i64 1)))]))] [.sub 0 [0,0,0] [],.sub 0 [0,0] [],.sub 0 [0] [],.sub 0 [] [],.sub 0 [] []]
def R50_18:List AOper:=[
 ⟨some 5,.move (.c (.s (.bool false))),none⟩]
def T50_18:=hT R50_18 [4,181] [5] 6 [] [(5,(.c (.s (.bool false))))] [.cc (.s (.bool false))]
def s_f50:ACFun:={ ntmps:=187,results:=[(.tmp 5)],body:=
 (.seq (.region R50_0 [] K50_0)
 (.seq (.region R50_1 [] [2,8,9,10,11,12,13,14,15,16,17])
 (.seq (.seq (.regionE R50_2 [7,18,19,20,21,22,23,24,25,26,27,28,29,30,31,32,33,34,35,36,37,38,39,40,41,42,43,44,45,46,47,48,49,50,51,52,53,54,55,56,57,58,59,60,61,62,63,64,65,66,67,68,69,70,71,72,73,74,75,76,77,78,79,80,81,82,83,84,85,86,87,88,89,90] [91])
 (.cond (.t 91)
 (.seq (.regionE R50_3 [4,6,91] [5])
 .ret)
 .skip))
 (.seq (.seq (.region R50_4 [] [6,91,92,93,94,95,96,97,98,99,100,101,102,103,104,105,106,107,108,109,110,111,112,113,114,115,116,117,118,119,120,121,122,123,124,125,126,127,128,129,130,131,132,133,134,135])
 (.cond (.t 136)
 (.seq (.regionE R50_5 [4,136] [5])
 .ret)
 .skip))
 (.seq (.seq (.regionE R50_6 [136,137] [138])
 (.block 0
 (.seq (.seq (.regionE R50_7 [140] [139])
 (.cond (.t 139)
 .skip
 (.regionE R50_8 [141] [139])))
 (.cond (.t 139)
 (.seq (.regionE R50_9 [4,138,139,142,143,144,145,146,147,148,149] [5])
 .ret)
 (.seq (.regionE R50_10 [139,151] [150])
 (.cond (.t 150)
 (.seq (.regionE R50_11 [4,138,150,152,153,154,155,156,157,158,159] [5])
 .ret)
 (.seq (.regionE R50_12 [150,161] [160])
 (.cond (.t 160)
 (.seq (.regionE R50_13 [4,138,160,162,163,164,165,166,167,168,169,170,171,172,173,174] [5])
 .ret)
 (.seq (.regionE R50_14 [160,176] [175])
 (.cond (.t 175)
 (.seq (.regionE R50_15 [4,138,175,177,178,179,180] [5])
 .ret)
 (.seq (.regionE R50_16 [138,175,182] [181])
 (.cond (.t 181)
 (.seq (.regionE R50_17 [4,181,183,184,185,186] [5])
 .ret)
 .skip))))))))))))
 (.seq (.regionE R50_18 [4,181] [5])
 .ret)))))) }
theorem s_f50_first:firstOk (List.range' 3 (s_f50.ntmps - 3)) s_f50.body=true:=by kernel_rfl
abbrev k_f51:Nat:=51
def K51_0:List Nat:=[1,2,3,4,5,6,7,8,9,10,11,12]
theorem s_f51_r0_kT:killV K51_0 (startV 13 [] 1)=[]:=by kernel_rfl
def s_f51_r0_kA0:=hK K51_0 0
def R51_0:List AOper:=[
 ⟨some 2,.move (.c (.s (.bool false))),none⟩]
def T51_0:=hT R51_0 K51_0 [] 3 [] [] [.cc (.s (.bool false))]
def R51_1:List AOper:=[
 ⟨some 3,.move (.t 0),none⟩,
 ⟨some 4,.bin .eql (.t 3) (.c (.s (.int .u8 12))),none⟩,
 ⟨some 5,.move (.t 4),none⟩,
 ⟨some 6,.move (.t 0),some (5,false)⟩,
 ⟨some 7,.bin .eql (.t 6) (.c (.s (.int .u8 13))),some (5,false)⟩,
 ⟨some 8,.pick (.t 5) (.c (.s (.bool true))) (.t 7),none⟩,
 ⟨some 9,.move (.t 8),none⟩,
 ⟨some 10,.move (.t 0),some (9,false)⟩,
 ⟨some 11,.bin .eql (.t 10) (.c (.s (.int .u8 14))),some (9,false)⟩,
 ⟨some 12,.pick (.t 9) (.c (.s (.bool true))) (.t 11),none⟩,
 ⟨some 2,.move (.t 12),none⟩]
def T51_1:=hT R51_1 [0,3,4,5,6,7,8,9,10,11,12] [2] 13 [] [(2,(.pick (.pick (.op (.bin .eql (.t 0) (.c (.s (.int .u8 12)))) [(.t 0),(.c (.s (.int .u8 12)))]) (.c (.s (.bool true))) (.op (.bin .eql (.t 0) (.c (.s (.int .u8 13)))) [(.t 0),(.c (.s (.int .u8 13)))])) (.c (.s (.bool true))) (.op (.bin .eql (.t 0) (.c (.s (.int .u8 14)))) [(.t 0),(.c (.s (.int .u8 14)))])))] [.tt 0,.sub 0 [0,0] [],.sub 0 [0,0] [],.sub 0 [0,2,0] [5],.sub 0 [0,2] [5],.sub 0 [0] [],.sub 0 [0] [],.sub 0 [2,0] [9],.sub 0 [2] [9],.sub 0 [] [],.sub 0 [] []]
def s_f51:ACFun:={ ntmps:=13,results:=[(.tmp 2)],body:=
 (.seq (.regionE R51_0 K51_0 [])
 (.seq (.regionE R51_1 [0,3,4,5,6,7,8,9,10,11,12] [2])
 .ret)) }
abbrev k_f52:Nat:=52
def K52_0:List Nat:=[0,1,5,6,7,8,9,10,11,12,13,14,15,16,17,18,19,20,21,22,23,24,25,26,27,28,29,30,31,32,33,34,35,36]
theorem A52_0_0:K52_0.contains 0=true:=by kernel_rfl
theorem A52_0_1:K52_0.contains 1=true:=by kernel_rfl
def A52_0_2:=hK K52_0 2
def A52_0_3:=hK K52_0 3
def A52_0_4:=hK K52_0 4
theorem A52_0_5:K52_0.contains 5=true:=by kernel_rfl
def R52_0t2:List AOper:=[⟨some 5,.move (.c (.s (.bool false))),none⟩]
def R52_0p1:List AOper:=[⟨some 4,.box (.t 1),none⟩]
def R52_0t1:List AOper:=R52_0p1 ++ R52_0t2
def R52_0p0:List AOper:=[⟨some 3,.box (.t 0),none⟩]
def R52_0:List AOper:=R52_0p0 ++ R52_0t1
def X52_0:=hO R52_0 R52_0p0 R52_0t1 [0,4,5,6,7,8,9,10,11,12,13,14,15,16,17,18,19,20,21,22,23,24,25,26,27,28,29,30,31,32,33,34,35,36] K52_0 [⟨some 3,.box (.t 0),none⟩]
def X52_0t1:=hO R52_0t1 R52_0p1 R52_0t2 [1] K52_0 [⟨some 4,.box (.t 1),none⟩]
def T52_0t2:=hT R52_0t2 K52_0 [] 6 [] [] [.cc (.s (.bool false))]
def X52_0t2:=hL R52_0t2 K52_0 []
def R52_1:List AOper:=[
 ⟨some 7,.load false 1 (.t 2),none⟩,
 ⟨some 8,.nilCheck (.t 7),none⟩,
 ⟨some 9,.fieldAddr 0 (.t 8),none⟩,
 ⟨some 10,.fieldAddr 0 (.t 9),none⟩,
 ⟨some 11,.load false 1 (.t 10),none⟩,
 ⟨some 12,.fieldAddr 0 (.t 3),none⟩,
 ⟨some 13,.load false 1 (.t 12),none⟩,
 ⟨some 14,.indexAddr 3 (.t 11) (.t 13),none⟩,
 ⟨some 15,.fieldAddr 2 (.t 14),none⟩,
 ⟨some 16,.load false 1 (.t 15),none⟩,
 ⟨some 17,.fieldAddr 1 (.t 3),none⟩,
 ⟨some 18,.load false 1 (.t 17),none⟩,
 ⟨some 19,.indexAddr 2 (.t 16) (.t 18),none⟩,
 ⟨some 20,.fieldAddr 1 (.t 19),none⟩,
 ⟨some 21,.load false 1 (.t 20),none⟩,
 ⟨some 22,.fieldAddr 2 (.t 3),none⟩,
 ⟨some 23,.load false 1 (.t 22),none⟩,
 ⟨some 24,.subSl 8 (.t 21) none (some (.t 23)) none,none⟩,
 ⟨some 6,.move (.t 24),none⟩]
def T52_1:=hT R52_1 [2,7,8,9,10,11,12,13,14,15,16,17,18,19,20,21,22,23,24] [6] 25 [] [(6,(.op (.subSl 8 (.t 0) none (some (.t 1)) none) [(.op (.load false 1 (.t 0)) [(.op (.fieldAddr 1 (.t 0)) [(.op (.indexAddr 2 (.t 0) (.t 1)) [(.op (.load false 1 (.t 0)) [(.op (.fieldAddr 2 (.t 0)) [(.op (.indexAddr 3 (.t 0) (.t 1)) [(.op (.load false 1 (.t 0)) [(.op (.fieldAddr 0 (.t 0)) [(.op (.fieldAddr 0 (.t 0)) [(.op (.nilCheck (.t 0)) [(.op (.load false 1 (.t 0)) [(.t 2)])])])])]),(.op (.load false 1 (.t 0)) [(.op (.fieldAddr 0 (.t 0)) [(.t 3)])])])])]),(.op (.load false 1 (.t 0)) [(.op (.fieldAddr 1 (.t 0)) [(.t 3)])])])])]),(.op (.load false 1 (.t 0)) [(.op (.fieldAddr 2 (.t 0)) [(.t 3)])])]))] [.sub 0 [0,0,0,0,0,0,0,0,0,0,0] [],.sub 0 [0,0,0,0,0,0,0,0,0,0] [],.sub 0 [0,0,0,0,0,0,0,0,0] [],.sub 0 [0,0,0,0,0,0,0,0] [],.sub 0 [0,0,0,0,0,0,0] [],.sub 0 [0,0,0,0,0,0,1,0] [],.sub 0 [0,0,0,0,0,0,1] [],.sub 0 [0,0,0,0,0,0] [],.sub 0 [0,0,0,0,0] [],.sub 0 [0,0,0,0] [],.sub 0 [0,0,0,1,0] [],.sub 0 [0,0,0,1] [],.sub 0 [0,0,0] [],.sub 0 [0,0] [],.sub 0 [0] [],.sub 0 [1,0] [],.sub 0 [1] [],.sub 0 [] [],.sub 0 [] []]
def R52_2t7:List AOper:=[⟨some 35,.pick (.t 32) (.c (.s (.bool true))) (.t 34),some (28,true)⟩,⟨some 36,.pick (.t 28) (.t 35) (.c (.s (.bool false))),none⟩,⟨some 5,.move (.t 36),none⟩]
def R52_2p6:List AOper:=[⟨some 34,.call (.c (.fn 53 [] [])) [(.t 33),(.c (.fn 54 [] []))],some (32,false)⟩]
def R52_2t6:List AOper:=R52_2p6 ++ R52_2t7
def R52_2p5:List AOper:=[⟨some 33,.move (.t 6),some (32,false)⟩]
def R52_2t5:List AOper:=R52_2p5 ++ R52_2t6
def R52_2p4:List AOper:=[⟨some 32,.move (.t 31),some (28,true)⟩]
def R52_2t4:List AOper:=R52_2p4 ++ R52_2t5
def R52_2p3:List AOper:=[⟨some 31,.bin .eql (.t 30) (.c (.s (.int .i64 0))),some (28,true)⟩]
def R52_2t3:List AOper:=R52_2p3 ++ R52_2t4
def R52_2p2:List AOper:=[⟨some 30,.load false 1 (.t 29),some (28,true)⟩]
def R52_2t2:List AOper:=R52_2p2 ++ R52_2t3
def R52_2p1:List AOper:=[⟨some 29,.fieldAddr 1 (.t 3),some (28,true)⟩]
def R52_2t1:List AOper:=R52_2p1 ++ R52_2t2
def R52_2p0:List AOper:=[⟨some 25,.fieldAddr 0 (.t 4),none⟩,⟨some 26,.load false 1 (.t 25),none⟩,⟨some 27,.bin .eql (.t 26) (.c (.s (.int .u8 6))),none⟩,⟨some 28,.move (.t 27),none⟩]
def R52_2:List AOper:=R52_2p0 ++ R52_2t1
def T52_2p0:=hT R52_2p0 [4,25,26,27] [28] 29 [] [(28,(.op (.bin .eql (.t 0) (.c (.s (.int .u8 6)))) [(.op (.load false 1 (.t 0)) [(.op (.fieldAddr 0 (.t 0)) [(.t 4)])]),(.c (.s (.int .u8 6)))]))] [.sub 0 [0,0] [],.sub 0 [0] [],.sub 0 [] [],.sub 0 [] []]
def X52_2:=hS R52_2 R52_2p0 R52_2t1 [4,25,26,27] [28] [3,4,6,25,26,27,28,29,30,31,32,33,34,35,36]
def X52_2t1:=hO R52_2t1 R52_2p1 R52_2t2 [3] [3,4,6,25,26,27,28,29,30,31,32,33,34,35,36] [⟨some 29,.fieldAddr 1 (.t 3),some (28,true)⟩]
def X52_2t2:=hO R52_2t2 R52_2p2 R52_2t3 [29] [3,4,6,25,26,27,28,29,30,31,32,33,34,35,36] [⟨some 30,.load false 1 (.t 29),some (28,true)⟩]
def X52_2t3:=hO R52_2t3 R52_2p3 R52_2t4 [30] [3,4,6,25,26,27,28,29,30,31,32,33,34,35,36] [⟨some 31,.bin .eql (.t 30) (.c (.s (.int .i64 0))),some (28,true)⟩]
def X52_2t4:=hO R52_2t4 R52_2p4 R52_2t5 [31] [3,4,6,25,26,27,28,29,30,31,32,33,34,35,36] [⟨some 32,.move (.t 31),some (28,true)⟩]
def X52_2t5:=hO R52_2t5 R52_2p5 R52_2t6 [6] [3,4,6,25,26,27,28,29,30,31,32,33,34,35,36] [⟨some 33,.move (.t 6),some (32,false)⟩]
def X52_2t6:=hO R52_2t6 R52_2p6 R52_2t7 [33] [3,4,6,25,26,27,28,29,30,31,32,33,34,35,36] [⟨some 34,.call (.c (.fn 53 [] [])) [(.t 33),(.c (.fn 54 [] []))],some (32,false)⟩]
def T52_2t7:=hT R52_2t7 [3,4,6,25,26,27,28,29,30,31,32,33,34,35,36] [5] 37 [] [(5,(.pick (.t 28) (.pick (.t 32) (.c (.s (.bool true))) (.t 34)) (.c (.s (.bool false)))))] [.sub 0 [1] [28],.sub 0 [] [],.sub 0 [] []]
def X52_2t7:=hL R52_2t7 [3,4,6,25,26,27,28,29,30,31,32,33,34,35,36] [5]
def s_f52:ACFun:={ ntmps:=37,results:=[(.tmp 5)],body:=
 (.seq (.region R52_0 [] K52_0)
 (.seq (.regionE R52_1 [2,7,8,9,10,11,12,13,14,15,16,17,18,19,20,21,22,23,24] [6])
 (.seq (.region R52_2 [] [3,4,6,25,26,27,28,29,30,31,32,33,34,35,36])
 .ret))) }
theorem s_f52_first:firstOk (List.range' 3 (s_f52.ntmps - 3)) s_f52.body=true:=by kernel_rfl
abbrev k_f53:Nat:=53
def K53_0:List Nat:=[2,3,4,5,6,7,8]
theorem s_f53_r0_kT:killV K53_0 (startV 9 [] 2)=[]:=by kernel_rfl
def s_f53_r0_kA0:=hK K53_0 0
def s_f53_r0_kA1:=hK K53_0 1
def R53_0:List AOper:=[
 ⟨some 4,.move (.c (.s (.bool false))),none⟩]
def T53_0:=hT R53_0 K53_0 [] 5 [] [] [.cc (.s (.bool false))]
def R53_1t2:List AOper:=[⟨some 8,.bin .geq (.t 7) (.c (.s (.int .i64 0))),none⟩,⟨some 4,.move (.t 8),none⟩]
def R53_1p1:List AOper:=[⟨some 7,.call (.c (.fn 68 [] [])) [(.t 5),(.t 6)],none⟩]
def R53_1t1:List AOper:=R53_1p1 ++ R53_1t2
def R53_1p0:List AOper:=[⟨some 5,.move (.t 0),none⟩,⟨some 6,.move (.t 1),none⟩]
def R53_1:List AOper:=R53_1p0 ++ R53_1t1
def T53_1p0:=hT R53_1p0 [0,1] [5,6] 7 [] [(5,(.t 0)),(6,(.t 1))] [.tt 0,.tt 1]
def X53_1:=hS R53_1 R53_1p0 R53_1t1 [0,1] [5,6] [0,1,5,6,7,8]
def X53_1t1:=hO R53_1t1 R53_1p1 R53_1t2 [5,6] [0,1,5,6,7,8] [⟨some 7,.call (.c (.fn 68 [] [])) [(.t 5),(.t 6)],none⟩]
def T53_1t2:=hT R53_1t2 [0,1,5,6,7,8] [4] 9 [] [(4,(.op (.bin .geq (.t 0) (.c (.s (.int .i64 0)))) [(.t 7),(.c (.s (.int .i64 0)))]))] [.sub 0 [] [],.sub 0 [] []]
def X53_1t2:=hL R53_1t2 [0,1,5,6,7,8] [4]
def s_f53:ACFun:={ ntmps:=9,results:=[(.tmp 4)],body:=
 (.seq (.regionE R53_0 K53_0 [])
 (.seq (.region R53_1 [] [0,1,5,6,7,8])
 .ret)) }
abbrev k_f54:Nat:=54
def K54_0:List Nat:=[0,2,3,4,5]
theorem A54_0_0:K54_0.contains 0=true:=by kernel_rfl
def A54_0_1:=hK K54_0 1
theorem A54_0_2:K54_0.contains 2=true:=by kernel_rfl
def R54_0t1:List AOper:=[⟨some 2,.move (.c (.s (.bool false))),none⟩]
def R54_0p0:List AOper:=[⟨some 1,.box (.t 0),none⟩]
def R54_0:List AOper:=R54_0p0 ++ R54_0t1
def X54_0:=hO R54_0 R54_0p0 R54_0t1 [0,2,3,4,5] K54_0 [⟨some 1,.box (.t 0),none⟩]
def T54_0t1:=hT R54_0t1 K54_0 [] 3 [] [] [.cc (.s (.bool false))]
def X54_0t1:=hL R54_0t1 K54_0 []
def R54_1:List AOper:=[
 ⟨some 3,.fieldAddr 0 (.t 1),none⟩,
 ⟨some 4,.load false 1 (.t 3),none⟩,
 ⟨some 5,.bin .neq (.t 4) (.c (.s (.int .u8 6))),none⟩,
 ⟨some 2,.move (.t 5),none⟩]
def T54_1:=hT R54_1 [1,3,4,5] [2] 6 [] [(2,(.op (.bin .neq (.t 0) (.c (.s (.int .u8 6)))) [(.op (.load false 1 (.t 0)) [(.op (.fieldAddr 0 (.t 0)) [(.t 1)])]),(.c (.s (.int .u8 6)))]))] [.sub 0 [0,0] [],.sub 0 [0] [],.sub 0 [] [],.sub 0 [] []]
def s_f54:ACFun:={ ntmps:=6,results:=[(.tmp 2)],body:=
 (.seq (.region R54_0 [] K54_0)
 (.seq (.regionE R54_1 [1,3,4,5] [2])
 .ret)) }
theorem s_f54_first:firstOk (List.range' 1 (s_f54.ntmps - 1)) s_f54.body=true:=by kernel_rfl
def a_f23:=ai @A23_0p0_0 (ai @A23_0p0_2 (ai @A23_0p0_3 (ai @X23_0 (ai @T23_0t1 (ai @X23_0t1 (ai @A23_0_0 (ai @A23_0_2 (ai @A23_0_3 (ai @T23_1 (ai @T23_2 (ai @T23_3p0 (ai @X23_3 (ai @X23_3t1 (ai @T23_3p2 (ai @X23_3t2 (ai @X23_3t3 (ai @T23_4p0 (ai @X23_4 (ai @X23_4t1 (ai @T23_4p2 (ai @X23_4t2 (ai @X23_4t3 (ai @X23_4t4 (ai @X23_4t5 (ai @T23_4t6 (ai @X23_4t6 (ai @T23_5p0 (ai @X23_5 (ai @X23_5t1 (ai @T23_5t2 (ai @X23_5t2 (ai @T23_6 (ai @T23_7 (ai @T23_8p0 (ai @X23_8 (ai @X23_8t1 (ai @T23_8p2 (ai @X23_8t2 (ai @X23_8t3 (ai @T23_9p0 (ai @X23_9 (ai @X23_9t1 (ai @T23_9t2 (ai @X23_9t2 (ai @T23_10p0 (ai @X23_10 (ai @X23_10t1 (ai @T23_10t2 (ai @X23_10t2 (ai @T23_11 (ai @T23_12 (ai @T23_13p0 (ai @X23_13 (ai @X23_13t1 (ai @T23_13p2 (ai @X23_13t2 (ai @X23_13t3 (ai @T23_14p0 (ai @X23_14 (ai @X23_14t1 (ai @X23_14t2 (ai @T23_15p0 (ai @X23_15 (ai @X23_15t1 (ai @X23_15t2 (ai @X23_15t3 (ai @X23_15t4 (ai @T23_15p5 (ai @X23_15t5 (ai @X23_15t6 (ai @X23_15t7 (ai @X23_15t8 (ai @X23_15t9 (ai @X23_15t10 (ai @X23_15t11 (ai @X23_15t12 (ai @T23_15p13 (ai @X23_15t13 (ai @X23_15t14 (ai @X23_15t15 (ai @X23_15t16 (ai @X23_15t17 (ai @X23_15t18 (ai @X23_15t19 (ai @X23_15t20 (ai @T23_15p21 (ai @X23_15t21 (ai @X23_15t22 (ai @X23_15t23 (ai @X23_15t24 (ai @X23_15t25 (ai @X23_15t26 (ai @X23_15t27 (ai @X23_15t28 (ai @T23_15t29 (ai @X23_15t29 (ai @T23_16p0 (ai @X23_16 (ai @X23_16t1 (ai @X23_16t2 (ai @X23_16t3 (ai @X23_16t4 (ai @X23_16t5 (ai @X23_16t6 (ai @X23_16t7 (ai @X23_16t8 (ai @X23_16t9 (ai @X23_16t10 (ai @T23_16p11 (ai @X23_16t11 (ai @X23_16t12 (ai @X23_16t13 (ai @X23_16t14 (ai @X23_16t15 (ai @X23_16t16 (ai @X23_16t17 (ai @X23_16t18 (ai @X23_16t19 (ai @X23_16t20 (ai @X23_16t21 (ai @T23_16t22 (ai @X23_16t22 (ai @T23_17 (ai @T23_18p0 (ai @X23_18 (ai @X23_18t1 (ai @T23_18t2 (ai @X23_18t2 (ai @T23_19 (ai @s_f23_l0_ev (ai @T23_20 (ai @s_f23_l1_ev (ai @T23_21 (ai @s_f23_l2_ev (ai @T23_22p0 (ai @X23_22 (ai @X23_22t1 (ai @T23_22t2 (@X23_22t2)))))))))))))))))))))))))))))))))))))))))))))))))))))))))))))))))))))))))))))))))))))))))))))))))))))))))))))))))))))))))))))))))))))))))))
def a_f30:=ai @X30_0 (ai @X30_0t1 (ai @T30_0t2 (ai @X30_0t2 (ai @A30_0_0 (ai @A30_0_1 (ai @A30_0_2 (ai @A30_0_3 (ai @T30_1p0 (ai @X30_1 (ai @X30_1t1 (ai @T30_1p2 (ai @X30_1t2 (ai @X30_1t3 (ai @T30_1t4 (@X30_1t4)))))))))))))))
def a_f39:=ai @T39_0 (ai @s_f39_r0_kT (ai @s_f39_r0_kA0 (ai @s_f39_r0_kA1 (ai @T39_1p0 (ai @X39_1 (ai @X39_1t1 (ai @T39_1t2 (@X39_1t2))))))))
def a_f40:=ai @T40_0 (ai @s_f40_r0_kT (ai @s_f40_r0_kA0 (ai @T40_1p0 (ai @X40_1 (ai @X40_1t1 (ai @T40_1t2 (@X40_1t2)))))))
def a_f41:=ai @X41_0 (ai @T41_0t1 (ai @X41_0t1 (ai @A41_0_0 (ai @A41_0_1 (ai @A41_0_2 (ai @A41_0_4 (ai @T41_1p0 (ai @X41_1 (ai @X41_1t1 (ai @T41_1t2 (@X41_1t2)))))))))))
def a_f42:=ai @T42_0 (ai @s_f42_r0_kT (ai @s_f42_r0_kA0 (ai @s_f42_r0_kA1 (ai @T42_1p0 (ai @X42_1 (ai @X42_1t1 (ai @T42_1t2 (@X42_1t2))))))))
def a_f43:=ai @X43_0 (ai @T43_0t1 (ai @X43_0t1 (ai @A43_0_0 (ai @A43_0_1 (ai @A43_0_4 (ai @A43_0_5 (ai @T43_1 (ai @T43_2 (ai @T43_3p0 (ai @X43_3 (ai @X43_3t1 (ai @T43_3p2 (ai @X43_3t2 (ai @X43_3t3 (ai @T43_4p0 (ai @X43_4 (ai @X43_4t1 (ai @T43_5p0 (ai @X43_5 (ai @X43_5t1 (ai @T43_5t2 (ai @X43_5t2 (ai @T43_6 (ai @s_f43_l0_ev (ai @T43_7p0 (ai @X43_7 (ai @X43_7t1 (ai @T43_7t2 (@X43_7t2)))))))))))))))))))))))))))))
def a_f44:=ai @X44_0 (ai @T44_0t1 (ai @X44_0t1 (ai @A44_0_0 (ai @A44_0_1 (ai @A44_0_2 (ai @A44_0_4 (ai @A44_0_5 (ai @T44_1 (ai @T44_2p0 (ai @X44_2 (ai @X44_2t1 (@T44_3))))))))))))
def a_f45:=ai @X45_0 (ai @T45_0t1 (ai @X45_0t1 (ai @A45_0_0 (ai @A45_0_1 (ai @A45_0_3 (ai @A45_0_4 (ai @T45_1p0 (ai @X45_1 (ai @X45_1t1 (ai @T45_1t2 (@X45_1t2)))))))))))
def a_f46:=ai @T46_0 (ai @s_f46_r0_kT (ai @s_f46_r0_kA0 (@T46_1)))
def a_f47:=ai @X47_0 (ai @T47_0t1 (ai @X47_0t1 (ai @A47_0_0 (ai @A47_0_1 (ai @A47_0_3 (ai @A47_0_4 (@T47_1)))))))
def a_f48:=ai @X48_0 (ai @X48_0t1 (ai @X48_0t2 (ai @A48_0_0 (ai @A48_0_1 (ai @A48_0_3 (ai @A48_0_4 (ai @A48_0_5 (ai @T48_1p0 (ai @X48_1 (ai @X48_1t1 (ai @X48_2 (ai @X48_2t1 (ai @X48_3 (ai @X48_3t1 (ai @T48_4p0 (ai @X48_4 (ai @X48_4t1 (ai @T48_5p0 (ai @X48_5 (ai @X48_5t1 (ai @X48_5t2 (ai @T48_6p0 (ai @X48_6 (ai @X48_6t1 (@X48_6t2)))))))))))))))))))))))))
def a_f49:=ai @X49_0 (ai @X49_0t1 (ai @T49_0t2 (ai @X49_0t2 (ai @A49_0_0 (ai @A49_0_1 (ai @A49_0_2 (ai @A49_0_3 (ai @A49_0_4 (ai @A49_0_5 (ai @T49_1p0 (ai @X49_1 (ai @X49_1t1 (@T49_2)))))))))))))
def a_f50:=ai @A50_0p0_0 (ai @A50_0p0_1 (ai @A50_0p0_2 (ai @A50_0p0_3 (ai @A50_0p0_4 (ai @A50_0p0_5 (ai @X50_0 (ai @X50_0t1 (ai @T50_0t2 (ai @X50_0t2 (ai @A50_0_0 (ai @A50_0_1 (ai @A50_0_2 (ai @A50_0_3 (ai @A50_0_4 (ai @A50_0_5 (ai @T50_1p0 (ai @X50_1 (ai @X50_1t1 (ai @X50_1t2 (ai @T50_1t3 (ai @X50_1t3 (ai @T50_2 (ai @T50_3 (ai @T50_4p0 (ai @X50_4 (ai @X50_4t1 (ai @X50_4t2 (ai @X50_4t3 (ai @T50_4t4 (ai @X50_4t4 (ai @T50_5 (ai @T50_6 (ai @T50_7 (ai @T50_8 (ai @T50_9 (ai @T50_10 (ai @T50_11 (ai @T50_12 (ai @T50_13 (ai @T50_14 (ai @T50_15 (ai @T50_16 (ai @T50_17 (@T50_18))))))))))))))))))))))))))))))))))))))))))))
def a_f51:=ai @T51_0 (ai @s_f51_r0_kT (ai @s_f51_r0_kA0 (@T51_1)))
def a_f52:=ai @X52_0 (ai @X52_0t1 (ai @T52_0t2 (ai @X52_0t2 (ai @A52_0_0 (ai @A52_0_1 (ai @A52_0_2 (ai @A52_0_3 (ai @A52_0_4 (ai @A52_0_5 (ai @T52_1 (ai @T52_2p0 (ai @X52_2 (ai @X52_2t1 (ai @X52_2t2 (ai @X52_2t3 (ai @X52_2t4 (ai @X52_2t5 (ai @X52_2t6 (ai @T52_2t7 (@X52_2t7))))))))))))))))))))
def a_f53:=ai @T53_0 (ai @s_f53_r0_kT (ai @s_f53_r0_kA0 (ai @s_f53_r0_kA1 (ai @T53_1p0 (ai @X53_1 (ai @X53_1t1 (ai @T53_1t2 (@X53_1t2))))))))
def a_f54:=ai @X54_0 (ai @T54_0t1 (ai @X54_0t1 (ai @A54_0_0 (ai @A54_0_1 (ai @A54_0_2 (@T54_1))))))
theorem NA2_23:compK Try.prog PX0 23=some (false,s_f23.ntmps,s_f23.results,s_f23.body.bare):=by kernel_rfl
theorem NA2_30:compK Try.prog PX0 30=some (false,s_f30.ntmps,s_f30.results,s_f30.body.bare):=by kernel_rfl
theorem NA2_39:compK Try.prog PX0 39=some (false,s_f39.ntmps,s_f39.results,s_f39.body.bare):=by kernel_rfl
theorem NA2_40:compK Try.prog PX0 40=some (false,s_f40.ntmps,s_f40.results,s_f40.body.bare):=by kernel_rfl
theorem NA2_41:compK Try.prog PX0 41=some (false,s_f41.ntmps,s_f41.results,s_f41.body.bare):=by kernel_rfl
theorem NA2_42:compK Try.prog PX0 42=some (false,s_f42.ntmps,s_f42.results,s_f42.body.bare):=by kernel_rfl
theorem NA2_43:compK Try.prog PX0 43=some (false,s_f43.ntmps,s_f43.results,s_f43.body.bare):=by kernel_rfl
theorem NA2_44:compK Try.prog PX0 44=some (false,s_f44.ntmps,s_f44.results,s_f44.body.bare):=by kernel_rfl
theorem NA2_45:compK Try.prog PX0 45=some (false,s_f45.ntmps,s_f45.results,s_f45.body.bare):=by kernel_rfl
theorem NA2_46:compK Try.prog PX0 46=some (false,s_f46.ntmps,s_f46.results,s_f46.body.bare):=by kernel_rfl
theorem NA2_47:compK Try.prog PX0 47=some (false,s_f47.ntmps,s_f47.results,s_f47.body.bare):=by kernel_rfl
theorem NA2_48:compK Try.prog PX0 48=some (false,s_f48.ntmps,s_f48.results,s_f48.body.bare):=by kernel_rfl
theorem NA2_49:compK Try.prog PX0 49=some (false,s_f49.ntmps,s_f49.results,s_f49.body.bare):=by kernel_rfl
theorem NA2_50:compK Try.prog PX0 50=some (false,s_f50.ntmps,s_f50.results,s_f50.body.bare):=by kernel_rfl
theorem NA2_51:compK Try.prog PX0 51=some (false,s_f51.ntmps,s_f51.results,s_f51.body.bare):=by kernel_rfl
theorem NA2_52:compK Try.prog PX0 52=some (false,s_f52.ntmps,s_f52.results,s_f52.body.bare):=by kernel_rfl
theorem NA2_53:compK Try.prog PX0 53=some (false,s_f53.ntmps,s_f53.results,s_f53.body.bare):=by kernel_rfl
theorem NA2_54:compK Try.prog PX0 54=some (false,s_f54.ntmps,s_f54.results,s_f54.body.bare):=by kernel_rfl
end Go.Proofs.YtamlbkalopefgaaR
set_option maxRecDepth 100000
namespace Go.Proofs.YtamlbkalopefgaaR
open Go.AM
abbrev k_f11:Nat:=11
def K11_0:List Nat:=[0,3,4,5,6,7,8,9,10,11,12,13,14,15,16,17,18,19,20]
theorem A11_0_0:K11_0.contains 0=true:=by kernel_rfl
def A11_0_1:=hK K11_0 1
def A11_0_2:=hK K11_0 2
def R11_0t1:List AOper:=[⟨some 2,.alloc [(.s (.int .u8 0)),(.s (.int .i64 0)),(.s (.int .i64 0)),(.s (.int .i64 0))],none⟩]
def R11_0p0:List AOper:=[⟨some 1,.box (.t 0),none⟩]
def R11_0:List AOper:=R11_0p0 ++ R11_0t1
def X11_0:=hO R11_0 R11_0p0 R11_0t1 [0,2,3,4,5,6,7,8,9,10,11,12,13,14,15,16,17,18,19,20] K11_0 [⟨some 1,.box (.t 0),none⟩]
def X11_0t1:=hX R11_0t1 K11_0 [⟨some 2,.alloc [(.s (.int .u8 0)),(.s (.int .i64 0)),(.s (.int .i64 0)),(.s (.int .i64 0))],none⟩]
def R11_1:List AOper:=[
 ⟨some 3,.move (.c (.s (.int .u8 1))),none⟩]
def T11_1:=hT R11_1 [] [3] 4 [] [(3,(.c (.s (.int .u8 1))))] [.cc (.s (.int .u8 1))]
def R11_2:List AOper:=[
 ⟨some 6,.move (.t 3),none⟩,
 ⟨some 7,.bin .leq (.t 6) (.c (.s (.int .u8 16))),none⟩]
def T11_2:=hT R11_2 [6] [7] 8 [] [(7,(.op (.bin .leq (.t 0) (.c (.s (.int .u8 16)))) [(.t 3),(.c (.s (.int .u8 16)))]))] [.tt 3,.sub 0 [] []]
def R11_3t5:List AOper:=[⟨some 5,.move (.t 15),none⟩]
def R11_3p4:List AOper:=[⟨none,.store 3 (.t 4) (.t 14),none⟩]
def R11_3t4:List AOper:=R11_3p4 ++ R11_3t5
def R11_3p3:List AOper:=[⟨some 4,.alloc [(.s (.int .i64 0)),(.s (.int .i64 0)),(.s (.int .i64 0))],none⟩]
def R11_3t3:List AOper:=R11_3p3 ++ R11_3t4
def R11_3p2:List AOper:=[⟨some 10,.move (.t 13),none⟩,⟨some 14,.extract (.t 10) 0,none⟩,⟨some 15,.extract (.t 10) 1,none⟩]
def R11_3t2:List AOper:=R11_3p2 ++ R11_3t3
def R11_3p1:List AOper:=[⟨some 13,.call (.c (.fn 12 [] [])) [(.t 11),(.t 12)],none⟩]
def R11_3t1:List AOper:=R11_3p1 ++ R11_3t2
def R11_3p0:List AOper:=[⟨some 11,.load true 1 (.t 1),none⟩,⟨some 12,.move (.t 3),none⟩]
def R11_3:List AOper:=R11_3p0 ++ R11_3t1
def T11_3p0:=hT R11_3p0 [7] [11,12] 13 [] [(11,(.op (.load true 1 (.t 0)) [(.t 1)])),(12,(.t 3))] [.sub 0 [] [],.tt 3]
def X11_3:=hS R11_3 R11_3p0 R11_3t1 [7] [11,12] [7,10,11,12,13,14,15]
def X11_3t1:=hO R11_3t1 R11_3p1 R11_3t2 [11,12] [7,10,11,12,13,14,15] [⟨some 13,.call (.c (.fn 12 [] [])) [(.t 11),(.t 12)],none⟩]
def T11_3p2:=hT R11_3p2 [10,13] [14,15] 16 [] [(14,(.op (.extract (.t 0) 0) [(.t 13)])),(15,(.op (.extract (.t 0) 1) [(.t 13)]))] [.tt 13,.sub 0 [] [],.sub 1 [] []]
def X11_3t2:=hS R11_3t2 R11_3p2 R11_3t3 [10,13] [14,15] [7,10,11,12,13,14,15]
def X11_3t3:=hO R11_3t3 R11_3p3 R11_3t4 [] [7,10,11,12,13,14,15] [⟨some 4,.alloc [(.s (.int .i64 0)),(.s (.int .i64 0)),(.s (.int .i64 0))],none⟩]
def X11_3t4:=hO R11_3t4 R11_3p4 R11_3t5 [14] [7,10,11,12,13,14,15] [⟨none,.store 3 (.t 4) (.t 14),none⟩]
def T11_3t5:=hT R11_3t5 [7,10,11,12,13,14,15] [5] 6 [] [(5,(.t 15))] [.tt 15]
def X11_3t5:=hL R11_3t5 [7,10,11,12,13,14,15] [5]
def R11_4:List AOper:=[
 ⟨some 16,.move (.t 5),none⟩]
def T11_4:=hT R11_4 [5] [16] 17 [] [(16,(.t 5))] [.tt 5]
def R11_5t1:List AOper:=[⟨none,.store 4 (.t 2) (.t 19),none⟩]
def R11_5p0:List AOper:=[⟨some 17,.move (.t 3),none⟩,⟨some 18,.load true 3 (.t 4),none⟩,⟨some 19,.build [(.s (.int .u8 0)),(.s (.int .i64 0)),(.s (.int .i64 0)),(.s (.int .i64 0))] [(0,1),(1,3)] [(0,(.t 17)),(1,(.t 18))],none⟩]
def R11_5:List AOper:=R11_5p0 ++ R11_5t1
def T11_5p0:=hT R11_5p0 [1,3,4,16,17,18] [19] 20 [] [(19,(.op (.build [(.s (.int .u8 0)),(.s (.int .i64 0)),(.s (.int .i64 0)),(.s (.int .i64 0))] [(0,1),(1,3)] [(0,(.t 0)),(1,(.t 1))]) [(.t 3),(.op (.load true 3 (.t 0)) [(.t 4)])]))] [.tt 3,.sub 0 [1] [],.sub 0 [] []]
def X11_5:=hS R11_5 R11_5p0 R11_5t1 [1,3,4,16,17,18] [19] [1,3,4,16,17,18,19]
def X11_5t1:=hX R11_5t1 [1,3,4,16,17,18,19] [⟨none,.store 4 (.t 2) (.t 19),none⟩]
def R11_6:List AOper:=[
 ⟨some 8,.move (.t 3),none⟩,
 ⟨some 9,.bin .add (.t 8) (.c (.s (.int .u8 1))),none⟩,
 ⟨some 3,.move (.t 9),none⟩]
def T11_6:=hT R11_6 [4,8,9,16] [3] 10 [] [(3,(.op (.bin .add (.t 0) (.c (.s (.int .u8 1)))) [(.t 3),(.c (.s (.int .u8 1)))]))] [.tt 3,.sub 0 [] [],.sub 0 [] []]
def s_f11_l0_b:ACode:=
 (.seq (.seq (.regionE R11_2 [6] [7])
 (.cond (.t 7)
 .skip
 (.exit 0)))
 (.seq (.block 1
 (.seq (.region R11_3 [] [7,10,11,12,13,14,15])
 (.seq (.regionE R11_4 [5] [16])
 (.cond (.t 16)
 (.seq (.region R11_5 [] [1,3,4,16,17,18,19])
 .ret)
 .skip))))
 (.regionE R11_6 [4,8,9,16] [3])))
def s_f11_l0:ACode:=s_f11_l0_b
def s_f11_l0_ev:=hE s_f11_l0 s_f11_l0_b
def R11_7t1:List AOper:=[⟨none,.store 4 (.t 2) (.t 20),none⟩]
def R11_7p0:List AOper:=[⟨some 20,.build [(.s (.int .u8 0)),(.s (.int .i64 0)),(.s (.int .i64 0)),(.s (.int .i64 0))] [(0,1),(1,3)] [],none⟩]
def R11_7:List AOper:=R11_7p0 ++ R11_7t1
def T11_7p0:=hT R11_7p0 [1,3,7] [20] 21 [] [(20,(.op (.build [(.s (.int .u8 0)),(.s (.int .i64 0)),(.s (.int .i64 0)),(.s (.int .i64 0))] [(0,1),(1,3)] []) []))] [.sub 0 [] []]
def X11_7:=hS R11_7 R11_7p0 R11_7t1 [1,3,7] [20] [1,3,7,20]
def X11_7t1:=hX R11_7t1 [1,3,7,20] [⟨none,.store 4 (.t 2) (.t 20),none⟩]
def s_f11:ACFun:={ ntmps:=21,results:=[(.cell 2 true 4)],body:=
 (.seq (.region R11_0 [] K11_0)
 (.seq (.seq (.regionE R11_1 [] [3])
 (.block 0
 (.loop [] s_f11_l0)))
 (.seq (.region R11_7 [] [1,3,7,20])
 .ret))) }
theorem s_f11_first:firstOk (List.range' 1 (s_f11.ntmps - 1)) s_f11.body=true:=by kernel_rfl
abbrev k_f12:Nat:=12
def K12_0:List Nat:=[0,3,5,6,7,8,9,10,11,12,13,14,15,16,17,18,19,20,21,22,23,24,25,26,27,28,29,30,31,32,33,34,35,36,37,38,39,40,41,42,43,44,45,46,47,48,49,50,51,52,53,54]
theorem A12_0_0:K12_0.contains 0=true:=by kernel_rfl
def A12_0_1:=hK K12_0 1
def A12_0_2:=hK K12_0 2
def A12_0_4:=hK K12_0 4
theorem A12_0_5:K12_0.contains 5=true:=by kernel_rfl
def R12_0t2:List AOper:=[⟨some 5,.move (.c (.s (.bool false))),none⟩]
def R12_0p1:List AOper:=[⟨some 4,.alloc [(.s (.int .i64 0)),(.s (.int .i64 0)),(.s (.int .i64 0))],none⟩]
def R12_0t1:List AOper:=R12_0p1 ++ R12_0t2
def R12_0p0:List AOper:=[⟨some 2,.box (.t 0),none⟩]
def R12_0:List AOper:=R12_0p0 ++ R12_0t1
def K12_0p0:List Nat:=[0,3,4,5,6,7,8,9,10,11,12,13,14,15,16,17,18,19,20,21,22,23,24,25,26,27,28,29,30,31,32,33,34,35,36,37,38,39,40,41,42,43,44,45,46,47,48,49,50,51,52,53,54]
theorem A12_0p0_0:K12_0p0.contains 0=true:=by kernel_rfl
def A12_0p0_1:=hK K12_0p0 1
def A12_0p0_2:=hK K12_0p0 2
theorem A12_0p0_4:K12_0p0.contains 4=true:=by kernel_rfl
theorem A12_0p0_5:K12_0p0.contains 5=true:=by kernel_rfl
theorem X12_0 (call:CallF) (it:IterF) (base:Nat) (f:List V) (H:Heap):evC call it base (.region R12_0 [] K12_0) f H=thenC call it base (.region R12_0t1 [] K12_0) (opsC [] R12_0p0 K12_0p0 (evOps call base [⟨some 2,.box (.t 0),none⟩] f H)):=(row_op call it base R12_0p0 R12_0t1 (kc:=K12_0p0) (by kernel_rfl) f H).trans (by rw [row_ops];rfl)
def X12_0t1:=hO R12_0t1 R12_0p1 R12_0t2 [] K12_0 [⟨some 4,.alloc [(.s (.int .i64 0)),(.s (.int .i64 0)),(.s (.int .i64 0))],none⟩]
def T12_0t2:=hT R12_0t2 K12_0 [] 6 [] [] [.cc (.s (.bool false))]
def X12_0t2:=hL R12_0t2 K12_0 []
def R12_1t4:List AOper:=[⟨some 6,.move (.t 11),none⟩]
def R12_1p3:List AOper:=[⟨some 11,.box (.t 10),none⟩]
def R12_1t3:List AOper:=R12_1p3 ++ R12_1t4
def R12_1p2:List AOper:=[⟨some 10,.build [(.s (.slice none 0 0)),(.s (.map none))] [(0,1),(1,1)] [(0,(.t 8)),(1,(.t 9))],none⟩]
def R12_1t2:List AOper:=R12_1p2 ++ R12_1t3
def R12_1p1:List AOper:=[⟨some 9,.callR (.c (.fn 21 [] [])) [],none⟩]
def R12_1t1:List AOper:=R12_1p1 ++ R12_1t2
def R12_1p0:List AOper:=[⟨some 8,.load true 1 (.t 2),none⟩]
def R12_1:List AOper:=R12_1p0 ++ R12_1t1
def T12_1p0:=hT R12_1p0 [2] [8] 9 [] [(8,(.op (.load true 1 (.t 0)) [(.t 2)]))] [.sub 0 [] []]
def X12_1:=hS R12_1 R12_1p0 R12_1t1 [2] [8] [2,8,9,10,11]
def X12_1t1:=hO R12_1t1 R12_1p1 R12_1t2 [] [2,8,9,10,11] [⟨some 9,.callR (.c (.fn 21 [] [])) [],none⟩]
def T12_1p2:=hT R12_1p2 [8,9] [10] 11 [] [(10,(.op (.build [(.s (.slice none 0 0)),(.s (.map none))] [(0,1),(1,1)] [(0,(.t 0)),(1,(.t 1))]) [(.t 8),(.t 9)]))] [.sub 0 [] []]
def X12_1t2:=hS R12_1t2 R12_1p2 R12_1t3 [8,9] [10] [2,8,9,10,11]
def X12_1t3:=hO R12_1t3 R12_1p3 R12_1t4 [10] [2,8,9,10,11] [⟨some 11,.box (.t 10),none⟩]
def T12_1t4:=hT R12_1t4 [2,8,9,10,11] [6] 7 [] [(6,(.t 11))] [.tt 11]
def X12_1t4:=hL R12_1t4 [2,8,9,10,11] [6]
def R12_2t33:List AOper:=[⟨some 45,.move (.t 12),none⟩,⟨some 46,.move (.t 1),none⟩,⟨some 47,.mapGet (.int .u8) (.s .nilFunc) (.t 45) (.t 46) false,none⟩,⟨some 7,.move (.t 47),none⟩]
def R12_2p32:List AOper:=[⟨none,.mapUpd (.int .u8) (.t 12) (.c (.s (.int .u8 16))) (.t 44),none⟩]
def R12_2t32:List AOper:=R12_2p32 ++ R12_2t33
def R12_2p31:List AOper:=[⟨some 43,.move (.t 6),none⟩,⟨some 44,.mkFn 37 [(.t 43)] [],none⟩]
def R12_2t31:List AOper:=R12_2p31 ++ R12_2t32
def R12_2p30:List AOper:=[⟨none,.mapUpd (.int .u8) (.t 12) (.c (.s (.int .u8 15))) (.t 42),none⟩]
def R12_2t30:List AOper:=R12_2p30 ++ R12_2t31
def R12_2p29:List AOper:=[⟨some 41,.move (.t 6),none⟩,⟨some 42,.mkFn 36 [(.t 41)] [],none⟩]
def R12_2t29:List AOper:=R12_2p29 ++ R12_2t30
def R12_2p28:List AOper:=[⟨none,.mapUpd (.int .u8) (.t 12) (.c (.s (.int .u8 14))) (.t 40),none⟩]
def R12_2t28:List AOper:=R12_2p28 ++ R12_2t29
def R12_2p27:List AOper:=[⟨some 39,.move (.t 6),none⟩,⟨some 40,.mkFn 35 [(.t 39)] [],none⟩]
def R12_2t27:List AOper:=R12_2p27 ++ R12_2t28
def R12_2p26:List AOper:=[⟨none,.mapUpd (.int .u8) (.t 12) (.c (.s (.int .u8 13))) (.t 38),none⟩]
def R12_2t26:List AOper:=R12_2p26 ++ R12_2t27
def R12_2p25:List AOper:=[⟨some 37,.move (.t 6),none⟩,⟨some 38,.mkFn 34 [(.t 37)] [],none⟩]
def R12_2t25:List AOper:=R12_2p25 ++ R12_2t26
def R12_2p24:List AOper:=[⟨none,.mapUpd (.int .u8) (.t 12) (.c (.s (.int .u8 12))) (.t 36),none⟩]
def R12_2t24:List AOper:=R12_2p24 ++ R12_2t25
def R12_2p23:List AOper:=[⟨some 35,.move (.t 6),none⟩,⟨some 36,.mkFn 33 [(.t 35)] [],none⟩]
def R12_2t23:List AOper:=R12_2p23 ++ R12_2t24
def R12_2p22:List AOper:=[⟨none,.mapUpd (.int .u8) (.t 12) (.c (.s (.int .u8 11))) (.t 34),none⟩]
def R12_2t22:List AOper:=R12_2p22 ++ R12_2t23
def R12_2p21:List AOper:=[⟨some 33,.move (.t 6),none⟩,⟨some 34,.mkFn 32 [(.t 33)] [],none⟩]
def R12_2t21:List AOper:=R12_2p21 ++ R12_2t22
def R12_2p20:List AOper:=[⟨none,.mapUpd (.int .u8) (.t 12) (.c (.s (.int .u8 10))) (.t 32),none⟩]
def R12_2t20:List AOper:=R12_2p20 ++ R12_2t21
def R12_2p19:List AOper:=[⟨some 31,.move (.t 6),none⟩,⟨some 32,.mkFn 31 [(.t 31)] [],none⟩]
def R12_2t19:List AOper:=R12_2p19 ++ R12_2t20
def R12_2p18:List AOper:=[⟨none,.mapUpd (.int .u8) (.t 12) (.c (.s (.int .u8 9))) (.t 30),none⟩]
def R12_2t18:List AOper:=R12_2p18 ++ R12_2t19
def R12_2p17:List AOper:=[⟨some 29,.move (.t 6),none⟩,⟨some 30,.mkFn 30 [(.t 29)] [],none⟩]
def R12_2t17:List AOper:=R12_2p17 ++ R12_2t18
def R12_2p16:List AOper:=[⟨none,.mapUpd (.int .u8) (.t 12) (.c (.s (.int .u8 8))) (.t 28),none⟩]
def R12_2t16:List AOper:=R12_2p16 ++ R12_2t17
def R12_2p15:List AOper:=[⟨some 27,.move (.t 6),none⟩,⟨some 28,.mkFn 29 [(.t 27)] [],none⟩]
def R12_2t15:List AOper:=R12_2p15 ++ R12_2t16
def R12_2p14:List AOper:=[⟨none,.mapUpd (.int .u8) (.t 12) (.c (.s (.int .u8 7))) (.t 26),none⟩]
def R12_2t14:List AOper:=R12_2p14 ++ R12_2t15
def R12_2p13:List AOper:=[⟨some 25,.move (.t 6),none⟩,⟨some 26,.mkFn 28 [(.t 25)] [],none⟩]
def R12_2t13:List AOper:=R12_2p13 ++ R12_2t14
def R12_2p12:List AOper:=[⟨none,.mapUpd (.int .u8) (.t 12) (.c (.s (.int .u8 6))) (.t 24),none⟩]
def R12_2t12:List AOper:=R12_2p12 ++ R12_2t13
def R12_2p11:List AOper:=[⟨some 23,.move (.t 6),none⟩,⟨some 24,.mkFn 27 [(.t 23)] [],none⟩]
def R12_2t11:List AOper:=R12_2p11 ++ R12_2t12
def R12_2p10:List AOper:=[⟨none,.mapUpd (.int .u8) (.t 12) (.c (.s (.int .u8 5))) (.t 22),none⟩]
def R12_2t10:List AOper:=R12_2p10 ++ R12_2t11
def R12_2p9:List AOper:=[⟨some 21,.move (.t 6),none⟩,⟨some 22,.mkFn 26 [(.t 21)] [],none⟩]
def R12_2t9:List AOper:=R12_2p9 ++ R12_2t10
def R12_2p8:List AOper:=[⟨none,.mapUpd (.int .u8) (.t 12) (.c (.s (.int .u8 4))) (.t 20),none⟩]
def R12_2t8:List AOper:=R12_2p8 ++ R12_2t9
def R12_2p7:List AOper:=[⟨some 19,.move (.t 6),none⟩,⟨some 20,.mkFn 25 [(.t 19)] [],none⟩]
def R12_2t7:List AOper:=R12_2p7 ++ R12_2t8
def R12_2p6:List AOper:=[⟨none,.mapUpd (.int .u8) (.t 12) (.c (.s (.int .u8 3))) (.t 18),none⟩]
def R12_2t6:List AOper:=R12_2p6 ++ R12_2t7
def R12_2p5:List AOper:=[⟨some 17,.move (.t 6),none⟩,⟨some 18,.mkFn 24 [(.t 17)] [],none⟩]
def R12_2t5:List AOper:=R12_2p5 ++ R12_2t6
def R12_2p4:List AOper:=[⟨none,.mapUpd (.int .u8) (.t 12) (.c (.s (.int .u8 2))) (.t 16),none⟩]
def R12_2t4:List AOper:=R12_2p4 ++ R12_2t5
def R12_2p3:List AOper:=[⟨some 15,.move (.t 6),none⟩,⟨some 16,.mkFn 23 [(.t 15)] [],none⟩]
def R12_2t3:List AOper:=R12_2p3 ++ R12_2t4
def R12_2p2:List AOper:=[⟨none,.mapUpd (.int .u8) (.t 12) (.c (.s (.int .u8 1))) (.t 14),none⟩]
def R12_2t2:List AOper:=R12_2p2 ++ R12_2t3
def R12_2p1:List AOper:=[⟨some 13,.move (.t 6),none⟩,⟨some 14,.mkFn 22 [(.t 13)] [],none⟩]
def R12_2t1:List AOper:=R12_2p1 ++ R12_2t2
def R12_2p0:List AOper:=[⟨some 12,.mapNew,none⟩]
def R12_2:List AOper:=R12_2p0 ++ R12_2t1
def X12_2:=hO R12_2 R12_2p0 R12_2t1 [] [1,6,12,13,14,15,16,17,18,19,20,21,22,23,24,25,26,27,28,29,30,31,32,33,34,35,36,37,38,39,40,41,42,43,44,45,46,47] [⟨some 12,.mapNew,none⟩]
def T12_2p1:=hT R12_2p1 [13] [14] 15 [] [(14,(.op (.mkFn 22 [(.t 0)] []) [(.t 6)]))] [.tt 6,.sub 0 [] []]
def X12_2t1:=hS R12_2t1 R12_2p1 R12_2t2 [13] [14] [1,6,12,13,14,15,16,17,18,19,20,21,22,23,24,25,26,27,28,29,30,31,32,33,34,35,36,37,38,39,40,41,42,43,44,45,46,47]
def X12_2t2:=hO R12_2t2 R12_2p2 R12_2t3 [14] [1,6,12,13,14,15,16,17,18,19,20,21,22,23,24,25,26,27,28,29,30,31,32,33,34,35,36,37,38,39,40,41,42,43,44,45,46,47] [⟨none,.mapUpd (.int .u8) (.t 12) (.c (.s (.int .u8 1))) (.t 14),none⟩]
def T12_2p3:=hT R12_2p3 [15] [16] 17 [] [(16,(.op (.mkFn 23 [(.t 0)] []) [(.t 6)]))] [.tt 6,.sub 0 [] []]
def X12_2t3:=hS R12_2t3 R12_2p3 R12_2t4 [15] [16] [1,6,12,13,14,15,16,17,18,19,20,21,22,23,24,25,26,27,28,29,30,31,32,33,34,35,36,37,38,39,40,41,42,43,44,45,46,47]
def X12_2t4:=hO R12_2t4 R12_2p4 R12_2t5 [16] [1,6,12,13,14,15,16,17,18,19,20,21,22,23,24,25,26,27,28,29,30,31,32,33,34,35,36,37,38,39,40,41,42,43,44,45,46,47] [⟨none,.mapUpd (.int .u8) (.t 12) (.c (.s (.int .u8 2))) (.t 16),none⟩]
def T12_2p5:=hT R12_2p5 [17] [18] 19 [] [(18,(.op (.mkFn 24 [(.t 0)] []) [(.t 6)]))] [.tt 6,.sub 0 [] []]
def X12_2t5:=hS R12_2t5 R12_2p5 R12_2t6 [17] [18] [1,6,12,13,14,15,16,17,18,19,20,21,22,23,24,25,26,27,28,29,30,31,32,33,34,35,36,37,38,39,40,41,42,43,44,45,46,47]
def X12_2t6:=hO R12_2t6 R12_2p6 R12_2t7 [18] [1,6,12,13,14,15,16,17,18,19,20,21,22,23,24,25,26,27,28,29,30,31,32,33,34,35,36,37,38,39,40,41,42,43,44,45,46,47] [⟨none,.mapUpd (.int .u8) (.t 12) (.c (.s (.int .u8 3))) (.t 18),none⟩]
def T12_2p7:=hT R12_2p7 [19] [20] 21 [] [(20,(.op (.mkFn 25 [(.t 0)] []) [(.t 6)]))] [.tt 6,.sub 0 [] []]
def X12_2t7:=hS R12_2t7 R12_2p7 R12_2t8 [19] [20] [1,6,12,13,14,15,16,17,18,19,20,21,22,23,24,25,26,27,28,29,30,31,32,33,34,35,36,37,38,39,40,41,42,43,44,45,46,47]
def X12_2t8:=hO R12_2t8 R12_2p8 R12_2t9 [20] [1,6,12,13,14,15,16,17,18,19,20,21,22,23,24,25,26,27,28,29,30,31,32,33,34,35,36,37,38,39,40,41,42,43,44,45,46,47] [⟨none,.mapUpd (.int .u8) (.t 12) (.c (.s (.int .u8 4))) (.t 20),none⟩]
def T12_2p9:=hT R12_2p9 [21] [22] 23 [] [(22,(.op (.mkFn 26 [(.t 0)] []) [(.t 6)]))] [.tt 6,.sub 0 [] []]
def X12_2t9:=hS R12_2t9 R12_2p9 R12_2t10 [21] [22] [1,6,12,13,14,15,16,17,18,19,20,21,22,23,24,25,26,27,28,29,30,31,32,33,34,35,36,37,38,39,40,41,42,43,44,45,46,47]
def X12_2t10:=hO R12_2t10 R12_2p10 R12_2t11 [22] [1,6,12,13,14,15,16,17,18,19,20,21,22,23,24,25,26,27,28,29,30,31,32,33,34,35,36,37,38,39,40,41,42,43,44,45,46,47] [⟨none,.mapUpd (.int .u8) (.t 12) (.c (.s (.int .u8 5))) (.t 22),none⟩]
def T12_2p11:=hT R12_2p11 [23] [24] 25 [] [(24,(.op (.mkFn 27 [(.t 0)] []) [(.t 6)]))] [.tt 6,.sub 0 [] []]
def X12_2t11:=hS R12_2t11 R12_2p11 R12_2t12 [23] [24] [1,6,12,13,14,15,16,17,18,19,20,21,22,23,24,25,26,27,28,29,30,31,32,33,34,35,36,37,38,39,40,41,42,43,44,45,46,47]
def X12_2t12:=hO R12_2t12 R12_2p12 R12_2t13 [24] [1,6,12,13,14,15,16,17,18,19,20,21,22,23,24,25,26,27,28,29,30,31,32,33,34,35,36,37,38,39,40,41,42,43,44,45,46,47] [⟨none,.mapUpd (.int .u8) (.t 12) (.c (.s (.int .u8 6))) (.t 24),none⟩]
def T12_2p13:=hT R12_2p13 [25] [26] 27 [] [(26,(.op (.mkFn 28 [(.t 0)] []) [(.t 6)]))] [.tt 6,.sub 0 [] []]
def X12_2t13:=hS R12_2t13 R12_2p13 R12_2t14 [25] [26] [1,6,12,13,14,15,16,17,18,19,20,21,22,23,24,25,26,27,28,29,30,31,32,33,34,35,36,37,38,39,40,41,42,43,44,45,46,47]
def X12_2t14:=hO R12_2t14 R12_2p14 R12_2t15 [26] [1,6,12,13,14,15,16,17,18,19,20,21,22,23,24,25,26,27,28,29,30,31,32,33,34,35,36,37,38,39,40,41,42,43,44,45,46,47] [⟨none,.mapUpd (.int .u8) (.t 12) (.c (.s (.int .u8 7))) (.t 26),none⟩]
def T12_2p15:=hT R12_2p15 [27] [28] 29 [] [(28,(.op (.mkFn 29 [(.t 0)] []) [(.t 6)]))] [.tt 6,.sub 0 [] []]
def X12_2t15:=hS R12_2t15 R12_2p15 R12_2t16 [27] [28] [1,6,12,13,14,15,16,17,18,19,20,21,22,23,24,25,26,27,28,29,30,31,32,33,34,35,36,37,38,39,40,41,42,43,44,45,46,47]
def X12_2t16:=hO R12_2t16 R12_2p16 R12_2t17 [28] [1,6,12,13,14,15,16,17,18,19,20,21,22,23,24,25,26,27,28,29,30,31,32,33,34,35,36,37,38,39,40,41,42,43,44,45,46,47] [⟨none,.mapUpd (.int .u8) (.t 12) (.c (.s (.int .u8 8))) (.t 28),none⟩]
def T12_2p17:=hT R12_2p17 [29] [30] 31 [] [(30,(.op (.mkFn 30 [(.t 0)] []) [(.t 6)]))] [.tt 6,.sub 0 [] []]
def X12_2t17:=hS R12_2t17 R12_2p17 R12_2t18 [29] [30] [1,6,12,13,14,15,16,17,18,19,20,21,22,23,24,25,26,27,28,29,30,31,32,33,34,35,36,37,38,39,40,41,42,43,44,45,46,47]
def X12_2t18:=hO R12_2t18 R12_2p18 R12_2t19 [30] [1,6,12,13,14,15,16,17,18,19,20,21,22,23,24,25,26,27,28,29,30,31,32,33,34,35,36,37,38,39,40,41,42,43,44,45,46,47] [⟨none,.mapUpd (.int .u8) (.t 12) (.c (.s (.int .u8 9))) (.t 30),none⟩]
def T12_2p19:=hT R12_2p19 [31] [32] 33 [] [(32,(.op (.mkFn 31 [(.t 0)] []) [(.t 6)]))] [.tt 6,.sub 0 [] []]
def X12_2t19:=hS R12_2t19 R12_2p19 R12_2t20 [31] [32] [1,6,12,13,14,15,16,17,18,19,20,21,22,23,24,25,26,27,28,29,30,31,32,33,34,35,36,37,38,39,40,41,42,43,44,45,46,47]
def X12_2t20:=hO R12_2t20 R12_2p20 R12_2t21 [32] [1,6,12,13,14,15,16,17,18,19,20,21,22,23,24,25,26,27,28,29,30,31,32,33,34,35,36,37,38,39,40,41,42,43,44,45,46,47] [⟨none,.mapUpd (.int .u8) (.t 12) (.c (.s (.int .u8 10))) (.t 32),none⟩]
def T12_2p21:=hT R12_2p21 [33] [34] 35 [] [(34,(.op (.mkFn 32 [(.t 0)] []) [(.t 6)]))] [.tt 6,.sub 0 [] []]
def X12_2t21:=hS R12_2t21 R12_2p21 R12_2t22 [33] [34] [1,6,12,13,14,15,16,17,18,19,20,21,22,23,24,25,26,27,28,29,30,31,32,33,34,35,36,37,38,39,40,41,42,43,44,45,46,47]
def X12_2t22:=hO R12_2t22 R12_2p22 R12_2t23 [34] [1,6,12,13,14,15,16,17,18,19,20,21,22,23,24,25,26,27,28,29,30,31,32,33,34,35,36,37,38,39,40,41,42,43,44,45,46,47] [⟨none,.mapUpd (.int .u8) (.t 12) (.c (.s (.int .u8 11))) (.t 34),none⟩]
def T12_2p23:=hT R12_2p23 [35] [36] 37 [] [(36,(.op (.mkFn 33 [(.t 0)] []) [(.t 6)]))] [.tt 6,.sub 0 [] []]
def X12_2t23:=hS R12_2t23 R12_2p23 R12_2t24 [35] [36] [1,6,12,13,14,15,16,17,18,19,20,21,22,23,24,25,26,27,28,29,30,31,32,33,34,35,36,37,38,39,40,41,42,43,44,45,46,47]
def X12_2t24:=hO R12_2t24 R12_2p24 R12_2t25 [36] [1,6,12,13,14,15,16,17,18,19,20,21,22,23,24,25,26,27,28,29,30,31,32,33,34,35,36,37,38,39,40,41,42,43,44,45,46,47] [⟨none,.mapUpd (.int .u8) (.t 12) (.c (.s (.int .u8 12))) (.t 36),none⟩]
def T12_2p25:=hT R12_2p25 [37] [38] 39 [] [(38,(.op (.mkFn 34 [(.t 0)] []) [(.t 6)]))] [.tt 6,.sub 0 [] []]
def X12_2t25:=hS R12_2t25 R12_2p25 R12_2t26 [37] [38] [1,6,12,13,14,15,16,17,18,19,20,21,22,23,24,25,26,27,28,29,30,31,32,33,34,35,36,37,38,39,40,41,42,43,44,45,46,47]
def X12_2t26:=hO R12_2t26 R12_2p26 R12_2t27 [38] [1,6,12,13,14,15,16,17,18,19,20,21,22,23,24,25,26,27,28,29,30,31,32,33,34,35,36,37,38,39,40,41,42,43,44,45,46,47] [⟨none,.mapUpd (.int .u8) (.t 12) (.c (.s (.int .u8 13))) (.t 38),none⟩]
def T12_2p27:=hT R12_2p27 [39] [40] 41 [] [(40,(.op (.mkFn 35 [(.t 0)] []) [(.t 6)]))] [.tt 6,.sub 0 [] []]
def X12_2t27:=hS R12_2t27 R12_2p27 R12_2t28 [39] [40] [1,6,12,13,14,15,16,17,18,19,20,21,22,23,24,25,26,27,28,29,30,31,32,33,34,35,36,37,38,39,40,41,42,43,44,45,46,47]
def X12_2t28:=hO R12_2t28 R12_2p28 R12_2t29 [40] [1,6,12,13,14,15,16,17,18,19,20,21,22,23,24,25,26,27,28,29,30,31,32,33,34,35,36,37,38,39,40,41,42,43,44,45,46,47] [⟨none,.mapUpd (.int .u8) (.t 12) (.c (.s (.int .u8 14))) (.t 40),none⟩]
def T12_2p29:=hT R12_2p29 [41] [42] 43 [] [(42,(.op (.mkFn 36 [(.t 0)] []) [(.t 6)]))] [.tt 6,.sub 0 [] []]
def X12_2t29:=hS R12_2t29 R12_2p29 R12_2t30 [41] [42] [1,6,12,13,14,15,16,17,18,19,20,21,22,23,24,25,26,27,28,29,30,31,32,33,34,35,36,37,38,39,40,41,42,43,44,45,46,47]
def X12_2t30:=hO R12_2t30 R12_2p30 R12_2t31 [42] [1,6,12,13,14,15,16,17,18,19,20,21,22,23,24,25,26,27,28,29,30,31,32,33,34,35,36,37,38,39,40,41,42,43,44,45,46,47] [⟨none,.mapUpd (.int .u8) (.t 12) (.c (.s (.int .u8 15))) (.t 42),none⟩]
def T12_2p31:=hT R12_2p31 [6,43] [44] 45 [] [(44,(.op (.mkFn 37 [(.t 0)] []) [(.t 6)]))] [.tt 6,.sub 0 [] []]
def X12_2t31:=hS R12_2t31 R12_2p31 R12_2t32 [6,43] [44] [1,6,12,13,14,15,16,17,18,19,20,21,22,23,24,25,26,27,28,29,30,31,32,33,34,35,36,37,38,39,40,41,42,43,44,45,46,47]
def X12_2t32:=hO R12_2t32 R12_2p32 R12_2t33 [44] [1,6,12,13,14,15,16,17,18,19,20,21,22,23,24,25,26,27,28,29,30,31,32,33,34,35,36,37,38,39,40,41,42,43,44,45,46,47] [⟨none,.mapUpd (.int .u8) (.t 12) (.c (.s (.int .u8 16))) (.t 44),none⟩]
def T12_2t33:=hT R12_2t33 [1,6,12,13,14,15,16,17,18,19,20,21,22,23,24,25,26,27,28,29,30,31,32,33,34,35,36,37,38,39,40,41,42,43,44,45,46,47] [7] 48 [] [(7,(.op (.mapGet (.int .u8) (.s .nilFunc) (.t 0) (.t 1) false) [(.t 12),(.t 1)]))] [.tt 12,.tt 1,.sub 0 [] [],.sub 0 [] []]
def X12_2t33:=hL R12_2t33 [1,6,12,13,14,15,16,17,18,19,20,21,22,23,24,25,26,27,28,29,30,31,32,33,34,35,36,37,38,39,40,41,42,43,44,45,46,47] [7]
def R12_3:List AOper:=[
 ⟨some 48,.move (.t 7),none⟩,
 ⟨some 49,.eqNil .f false (.t 48),none⟩]
def T12_3:=hT R12_3 [48] [49] 50 [] [(49,(.op (.eqNil .f false (.t 0)) [(.t 7)]))] [.tt 7,.sub 0 [] []]
def R12_4t2:List AOper:=[⟨some 5,.move (.c (.s (.bool false))),none⟩]
def R12_4p1:List AOper:=[⟨none,.store 3 (.t 4) (.t 50),none⟩]
def R12_4t1:List AOper:=R12_4p1 ++ R12_4t2
def R12_4p0:List AOper:=[⟨some 50,.build [(.s (.int .i64 0)),(.s (.int .i64 0)),(.s (.int .i64 0))] [(0,1),(1,1),(2,1)] [],none⟩]
def R12_4:List AOper:=R12_4p0 ++ R12_4t1
def T12_4p0:=hT R12_4p0 [7,49] [50] 51 [] [(50,(.op (.build [(.s (.int .i64 0)),(.s (.int .i64 0)),(.s (.int .i64 0))] [(0,1),(1,1),(2,1)] []) []))] [.sub 0 [] []]
def X12_4:=hS R12_4 R12_4p0 R12_4t1 [7,49] [50] [7,49,50]
def X12_4t1:=hO R12_4t1 R12_4p1 R12_4t2 [50] [7,49,50] [⟨none,.store 3 (.t 4) (.t 50),none⟩]
def T12_4t2:=hT R12_4t2 [7,49,50] [5] 6 [] [(5,(.c (.s (.bool false))))] [.cc (.s (.bool false))]
def X12_4t2:=hL R12_4t2 [7,49,50] [5]
def R12_5t4:List AOper:=[⟨some 5,.move (.t 54),none⟩]
def R12_5p3:List AOper:=[⟨none,.store 3 (.t 4) (.t 53),none⟩]
def R12_5t3:List AOper:=R12_5p3 ++ R12_5t4
def R12_5p2:List AOper:=[⟨some 53,.extract (.t 52) 0,none⟩,⟨some 54,.extract (.t 52) 1,none⟩]
def R12_5t2:List AOper:=R12_5p2 ++ R12_5t3
def R12_5p1:List AOper:=[⟨some 52,.call (.t 51) [],none⟩]
def R12_5t1:List AOper:=R12_5p1 ++ R12_5t2
def R12_5p0:List AOper:=[⟨some 51,.move (.t 7),none⟩]
def R12_5:List AOper:=R12_5p0 ++ R12_5t1
def T12_5p0:=hT R12_5p0 [7,49] [51] 52 [] [(51,(.t 7))] [.tt 7]
def X12_5:=hS R12_5 R12_5p0 R12_5t1 [7,49] [51] [7,49,51,52,53,54]
def X12_5t1:=hO R12_5t1 R12_5p1 R12_5t2 [51] [7,49,51,52,53,54] [⟨some 52,.call (.t 51) [],none⟩]
def T12_5p2:=hT R12_5p2 [52] [53,54] 55 [] [(53,(.op (.extract (.t 0) 0) [(.t 52)])),(54,(.op (.extract (.t 0) 1) [(.t 52)]))] [.sub 0 [] [],.sub 1 [] []]
def X12_5t2:=hS R12_5t2 R12_5p2 R12_5t3 [52] [53,54] [7,49,51,52,53,54]
def X12_5t3:=hO R12_5t3 R12_5p3 R12_5t4 [53] [7,49,51,52,53,54] [⟨none,.store 3 (.t 4) (.t 53),none⟩]
def T12_5t4:=hT R12_5t4 [7,49,51,52,53,54] [5] 6 [] [(5,(.t 54))] [.tt 54]
def X12_5t4:=hL R12_5t4 [7,49,51,52,53,54] [5]
def s_f12:ACFun:={ ntmps:=55,results:=[(.cell 4 true 3),(.tmp 5)],body:=
 (.seq (.region R12_0 [] K12_0)
 (.seq (.region R12_1 [] [2,8,9,10,11])
 (.seq (.region R12_2 [] [1,6,12,13,14,15,16,17,18,19,20,21,22,23,24,25,26,27,28,29,30,31,32,33,34,35,36,37,38,39,40,41,42,43,44,45,46,47])
 (.seq (.seq (.regionE R12_3 [48] [49])
 (.cond (.t 49)
 (.seq (.region R12_4 [] [7,49,50])
 .ret)
 .skip))
 (.seq (.region R12_5 [] [7,49,51,52,53,54])
 .ret))))) }
theorem s_f12_first:firstOk (List.range' 2 (s_f12.ntmps - 2)) s_f12.body=true:=by kernel_rfl
abbrev k_f55:Nat:=55
def K55_0:List Nat:=[0,1,5,6,7,8,9]
theorem A55_0_0:K55_0.contains 0=true:=by kernel_rfl
theorem A55_0_1:K55_0.contains 1=true:=by kernel_rfl
def A55_0_2:=hK K55_0 2
def A55_0_3:=hK K55_0 3
def A55_0_4:=hK K55_0 4
theorem A55_0_5:K55_0.contains 5=true:=by kernel_rfl
def R55_0t2:List AOper:=[⟨some 5,.move (.c (.s (.bool false))),none⟩]
def R55_0p1:List AOper:=[⟨some 4,.box (.t 1),none⟩]
def R55_0t1:List AOper:=R55_0p1 ++ R55_0t2
def R55_0p0:List AOper:=[⟨some 3,.box (.t 0),none⟩]
def R55_0:List AOper:=R55_0p0 ++ R55_0t1
def X55_0:=hO R55_0 R55_0p0 R55_0t1 [0,4,5,6,7,8,9] K55_0 [⟨some 3,.box (.t 0),none⟩]
def X55_0t1:=hO R55_0t1 R55_0p1 R55_0t2 [1] K55_0 [⟨some 4,.box (.t 1),none⟩]
def T55_0t2:=hT R55_0t2 K55_0 [] 6 [] [] [.cc (.s (.bool false))]
def X55_0t2:=hL R55_0t2 K55_0 []
def R55_1t2:List AOper:=[⟨some 5,.move (.t 9),none⟩]
def R55_1p1:List AOper:=[⟨some 9,.call (.c (.fn 39 [] [])) [(.t 7),(.t 8)],none⟩]
def R55_1t1:List AOper:=R55_1p1 ++ R55_1t2
def R55_1p0:List AOper:=[⟨some 6,.fieldAddr 7 (.t 4),none⟩,⟨some 7,.load false 1 (.t 6),none⟩,⟨some 8,.mkFn 56 [] [(.t 2),(.t 3)],none⟩]
def R55_1:List AOper:=R55_1p0 ++ R55_1t1
def T55_1p0:=hT R55_1p0 [2,3,4,6] [7,8] 9 [] [(7,(.op (.load false 1 (.t 0)) [(.op (.fieldAddr 7 (.t 0)) [(.t 4)])])),(8,(.op (.mkFn 56 [] [(.t 0),(.t 1)]) [(.t 2),(.t 3)]))] [.sub 0 [0] [],.sub 0 [] [],.sub 1 [] []]
def X55_1:=hS R55_1 R55_1p0 R55_1t1 [2,3,4,6] [7,8] [2,3,4,6,7,8,9]
def X55_1t1:=hO R55_1t1 R55_1p1 R55_1t2 [7,8] [2,3,4,6,7,8,9] [⟨some 9,.call (.c (.fn 39 [] [])) [(.t 7),(.t 8)],none⟩]
def T55_1t2:=hT R55_1t2 [2,3,4,6,7,8,9] [5] 6 [] [(5,(.t 9))] [.tt 9]
def X55_1t2:=hL R55_1t2 [2,3,4,6,7,8,9] [5]
def s_f55:ACFun:={ ntmps:=10,results:=[(.tmp 5)],body:=
 (.seq (.region R55_0 [] K55_0)
 (.seq (.region R55_1 [] [2,3,4,6,7,8,9])
 .ret)) }
theorem s_f55_first:firstOk (List.range' 3 (s_f55.ntmps - 3)) s_f55.body=true:=by kernel_rfl
abbrev k_f56:Nat:=56
def K56_0:List Nat:=[0,4,5,6,7,8,9,10,11,12,13,14,15,16,17]
theorem A56_0_0:K56_0.contains 0=true:=by kernel_rfl
def A56_0_1:=hK K56_0 1
def A56_0_2:=hK K56_0 2
def A56_0_3:=hK K56_0 3
theorem A56_0_4:K56_0.contains 4=true:=by kernel_rfl
def R56_0t1:List AOper:=[⟨some 4,.move (.c (.s (.bool false))),none⟩]
def R56_0p0:List AOper:=[⟨some 3,.box (.t 0),none⟩]
def R56_0:List AOper:=R56_0p0 ++ R56_0t1
def X56_0:=hO R56_0 R56_0p0 R56_0t1 [0,4,5,6,7,8,9,10,11,12,13,14,15,16,17] K56_0 [⟨some 3,.box (.t 0),none⟩]
def T56_0t1:=hT R56_0t1 K56_0 [] 5 [] [] [.cc (.s (.bool false))]
def X56_0t1:=hL R56_0t1 K56_0 []
def R56_1t2:List AOper:=[⟨some 17,.un .not (.t 16),none⟩,⟨some 4,.move (.t 17),none⟩]
def R56_1p1:List AOper:=[⟨some 16,.call (.c (.fn 57 [] [])) [(.t 14),(.t 15)],none⟩]
def R56_1t1:List AOper:=R56_1p1 ++ R56_1t2
def R56_1p0:List AOper:=[⟨some 5,.load false 1 (.t 1),none⟩,⟨some 6,.nilCheck (.t 5),none⟩,⟨some 7,.fieldAddr 0 (.t 6),none⟩,⟨some 8,.fieldAddr 0 (.t 7),none⟩,⟨some 9,.load false 1 (.t 8),none⟩,⟨some 10,.fieldAddr 0 (.t 2),none⟩,⟨some 11,.load false 1 (.t 10),none⟩,⟨some 12,.indexAddr 3 (.t 9) (.t 11),none⟩,⟨some 13,.fieldAddr 2 (.t 12),none⟩,⟨some 14,.load false 1 (.t 13),none⟩,⟨some 15,.mkFn 58 [] [(.t 3)],none⟩]
def R56_1:List AOper:=R56_1p0 ++ R56_1t1
def T56_1p0:=hT R56_1p0 [1,2,3,5,6,7,8,9,10,11,12,13] [14,15] 16 [] [(14,(.op (.load false 1 (.t 0)) [(.op (.fieldAddr 2 (.t 0)) [(.op (.indexAddr 3 (.t 0) (.t 1)) [(.op (.load false 1 (.t 0)) [(.op (.fieldAddr 0 (.t 0)) [(.op (.fieldAddr 0 (.t 0)) [(.op (.nilCheck (.t 0)) [(.op (.load false 1 (.t 0)) [(.t 1)])])])])]),(.op (.load false 1 (.t 0)) [(.op (.fieldAddr 0 (.t 0)) [(.t 2)])])])])])),(15,(.op (.mkFn 58 [] [(.t 0)]) [(.t 3)]))] [.sub 0 [0,0,0,0,0,0,0] [],.sub 0 [0,0,0,0,0,0] [],.sub 0 [0,0,0,0,0] [],.sub 0 [0,0,0,0] [],.sub 0 [0,0,0] [],.sub 0 [0,0,1,0] [],.sub 0 [0,0,1] [],.sub 0 [0,0] [],.sub 0 [0] [],.sub 0 [] [],.sub 1 [] []]
def X56_1:=hS R56_1 R56_1p0 R56_1t1 [1,2,3,5,6,7,8,9,10,11,12,13] [14,15] [1,2,3,5,6,7,8,9,10,11,12,13,14,15,16,17]
def X56_1t1:=hO R56_1t1 R56_1p1 R56_1t2 [14,15] [1,2,3,5,6,7,8,9,10,11,12,13,14,15,16,17] [⟨some 16,.call (.c (.fn 57 [] [])) [(.t 14),(.t 15)],none⟩]
def T56_1t2:=hT R56_1t2 [1,2,3,5,6,7,8,9,10,11,12,13,14,15,16,17] [4] 18 [] [(4,(.op (.un .not (.t 0)) [(.t 16)]))] [.sub 0 [] [],.sub 0 [] []]
def X56_1t2:=hL R56_1t2 [1,2,3,5,6,7,8,9,10,11,12,13,14,15,16,17] [4]
def s_f56:ACFun:={ ntmps:=18,results:=[(.tmp 4)],body:=
 (.seq (.region R56_0 [] K56_0)
 (.seq (.region R56_1 [] [1,2,3,5,6,7,8,9,10,11,12,13,14,15,16,17])
 .ret)) }
theorem s_f56_first:firstOk (List.range' 3 (s_f56.ntmps - 3)) s_f56.body=true:=by kernel_rfl
abbrev k_f57:Nat:=57
def K57_0:List Nat:=[2,3,4,5,6,7,8]
theorem s_f57_r0_kT:killV K57_0 (startV 9 [] 2)=[]:=by kernel_rfl
def s_f57_r0_kA0:=hK K57_0 0
def s_f57_r0_kA1:=hK K57_0 1
def R57_0:List AOper:=[
 ⟨some 4,.move (.c (.s (.bool false))),none⟩]
def T57_0:=hT R57_0 K57_0 [] 5 [] [] [.cc (.s (.bool false))]
def R57_1t2:List AOper:=[⟨some 8,.bin .geq (.t 7) (.c (.s (.int .i64 0))),none⟩,⟨some 4,.move (.t 8),none⟩]
def R57_1p1:List AOper:=[⟨some 7,.call (.c (.fn 69 [] [])) [(.t 5),(.t 6)],none⟩]
def R57_1t1:List AOper:=R57_1p1 ++ R57_1t2
def R57_1p0:List AOper:=[⟨some 5,.move (.t 0),none⟩,⟨some 6,.move (.t 1),none⟩]
def R57_1:List AOper:=R57_1p0 ++ R57_1t1
def T57_1p0:=hT R57_1p0 [0,1] [5,6] 7 [] [(5,(.t 0)),(6,(.t 1))] [.tt 0,.tt 1]
def X57_1:=hS R57_1 R57_1p0 R57_1t1 [0,1] [5,6] [0,1,5,6,7,8]
def X57_1t1:=hO R57_1t1 R57_1p1 R57_1t2 [5,6] [0,1,5,6,7,8] [⟨some 7,.call (.c (.fn 69 [] [])) [(.t 5),(.t 6)],none⟩]
def T57_1t2:=hT R57_1t2 [0,1,5,6,7,8] [4] 9 [] [(4,(.op (.bin .geq (.t 0) (.c (.s (.int .i64 0)))) [(.t 7),(.c (.s (.int .i64 0)))]))] [.sub 0 [] [],.sub 0 [] []]
def X57_1t2:=hL R57_1t2 [0,1,5,6,7,8] [4]
def s_f57:ACFun:={ ntmps:=9,results:=[(.tmp 4)],body:=
 (.seq (.regionE R57_0 K57_0 [])
 (.seq (.region R57_1 [] [0,1,5,6,7,8])
 .ret)) }
abbrev k_f58:Nat:=58
def K58_0:List Nat:=[0,3,4,5,6,7]
theorem A58_0_0:K58_0.contains 0=true:=by kernel_rfl
def A58_0_1:=hK K58_0 1
def A58_0_2:=hK K58_0 2
theorem A58_0_3:K58_0.contains 3=true:=by kernel_rfl
def R58_0t1:List AOper:=[⟨some 3,.move (.c (.s (.bool false))),none⟩]
def R58_0p0:List AOper:=[⟨some 2,.box (.t 0),none⟩]
def R58_0:List AOper:=R58_0p0 ++ R58_0t1
def X58_0:=hO R58_0 R58_0p0 R58_0t1 [0,3,4,5,6,7] K58_0 [⟨some 2,.box (.t 0),none⟩]
def T58_0t1:=hT R58_0t1 K58_0 [] 4 [] [] [.cc (.s (.bool false))]
def X58_0t1:=hL R58_0t1 K58_0 []
def R58_1:List AOper:=[
 ⟨some 4,.fieldAddr 0 (.t 2),none⟩,
 ⟨some 5,.load false 1 (.t 4),none⟩,
 ⟨some 6,.load false 1 (.t 1),none⟩,
 ⟨some 7,.bin .eql (.t 5) (.t 6),none⟩,
 ⟨some 3,.move (.t 7),none⟩]
def T58_1:=hT R58_1 [1,2,4,5,6,7] [3] 8 [] [(3,(.op (.bin .eql (.t 0) (.t 1)) [(.op (.load false 1 (.t 0)) [(.op (.fieldAddr 0 (.t 0)) [(.t 2)])]),(.op (.load false 1 (.t 0)) [(.t 1)])]))] [.sub 0 [0,0] [],.sub 0 [0] [],.sub 0 [1] [],.sub 0 [] [],.sub 0 [] []]
def s_f58:ACFun:={ ntmps:=8,results:=[(.tmp 3)],body:=
 (.seq (.region R58_0 [] K58_0)
 (.seq (.regionE R58_1 [1,2,4,5,6,7] [3])
 .ret)) }
theorem s_f58_first:firstOk (List.range' 2 (s_f58.ntmps - 2)) s_f58.body=true:=by kernel_rfl
abbrev k_f59:Nat:=59
def K59_0:List Nat:=[0,1,3,5,6,7,8,9,10,11,12,13,14,15,16,17,18,19,20]
theorem A59_0_0:K59_0.contains 0=true:=by kernel_rfl
theorem A59_0_1:K59_0.contains 1=true:=by kernel_rfl
def A59_0_2:=hK K59_0 2
theorem A59_0_3:K59_0.contains 3=true:=by kernel_rfl
def A59_0_4:=hK K59_0 4
theorem A59_0_5:K59_0.contains 5=true:=by kernel_rfl
def R59_0t2:List AOper:=[⟨some 5,.move (.c (.s (.bool false))),none⟩]
def R59_0p1:List AOper:=[⟨some 4,.box (.t 1),none⟩]
def R59_0t1:List AOper:=R59_0p1 ++ R59_0t2
def R59_0p0:List AOper:=[⟨some 3,.box (.t 0),none⟩]
def R59_0:List AOper:=R59_0p0 ++ R59_0t1
def X59_0:=hO R59_0 R59_0p0 R59_0t1 [0,3,4,5,6,7,8,9,10,11,12,13,14,15,16,17,18,19,20] K59_0 [⟨some 3,.box (.t 0),none⟩]
def X59_0t1:=hO R59_0t1 R59_0p1 R59_0t2 [1] K59_0 [⟨some 4,.box (.t 1),none⟩]
def T59_0t2:=hT R59_0t2 K59_0 [] 6 [] [] [.cc (.s (.bool false))]
def X59_0t2:=hL R59_0t2 K59_0 []
def R59_1t5:List AOper:=[⟨some 19,.bin .lss (.t 18) (.c (.s (.int .i64 0))),some (14,true)⟩,⟨some 20,.pick (.t 14) (.t 19) (.c (.s (.bool false))),none⟩,⟨some 5,.move (.t 20),none⟩]
def R59_1p4:List AOper:=[⟨some 18,.call (.c (.fn 45 [] [])) [(.t 15),(.t 17)],some (14,true)⟩]
def R59_1t4:List AOper:=R59_1p4 ++ R59_1t5
def R59_1p3:List AOper:=[⟨some 17,.load false 1 (.t 16),some (14,true)⟩]
def R59_1t3:List AOper:=R59_1p3 ++ R59_1t4
def R59_1p2:List AOper:=[⟨some 16,.fieldAddr 5 (.t 4),some (14,true)⟩]
def R59_1t2:List AOper:=R59_1p2 ++ R59_1t3
def R59_1p1:List AOper:=[⟨some 15,.load false 1 (.t 2),some (14,true)⟩]
def R59_1t1:List AOper:=R59_1p1 ++ R59_1t2
def R59_1p0:List AOper:=[⟨some 6,.fieldAddr 0 (.t 4),none⟩,⟨some 7,.load false 1 (.t 6),none⟩,⟨some 8,.bin .eql (.t 7) (.c (.s (.int .u8 10))),none⟩,⟨some 9,.move (.t 8),none⟩,⟨some 10,.fieldAddr 0 (.t 4),some (9,false)⟩,⟨some 11,.load false 1 (.t 10),some (9,false)⟩,⟨some 12,.bin .eql (.t 11) (.c (.s (.int .u8 4))),some (9,false)⟩,⟨some 13,.pick (.t 9) (.c (.s (.bool true))) (.t 12),none⟩,⟨some 14,.move (.t 13),none⟩]
def R59_1:List AOper:=R59_1p0 ++ R59_1t1
def T59_1p0:=hT R59_1p0 [6,7,8,9,10,11,12,13] [14] 15 [] [(14,(.pick (.op (.bin .eql (.t 0) (.c (.s (.int .u8 10)))) [(.op (.load false 1 (.t 0)) [(.op (.fieldAddr 0 (.t 0)) [(.t 4)])]),(.c (.s (.int .u8 10)))]) (.c (.s (.bool true))) (.op (.bin .eql (.t 0) (.c (.s (.int .u8 4)))) [(.op (.load false 1 (.t 0)) [(.op (.fieldAddr 0 (.t 0)) [(.t 4)])]),(.c (.s (.int .u8 4)))])))] [.sub 0 [0,0,0] [],.sub 0 [0,0] [],.sub 0 [0] [],.sub 0 [0] [],.sub 0 [2,0,0] [9],.sub 0 [2,0] [9],.sub 0 [2] [9],.sub 0 [] [],.sub 0 [] []]
def X59_1:=hS R59_1 R59_1p0 R59_1t1 [6,7,8,9,10,11,12,13] [14] [2,4,6,7,8,9,10,11,12,13,14,15,16,17,18,19,20]
def X59_1t1:=hO R59_1t1 R59_1p1 R59_1t2 [2] [2,4,6,7,8,9,10,11,12,13,14,15,16,17,18,19,20] [⟨some 15,.load false 1 (.t 2),some (14,true)⟩]
def X59_1t2:=hO R59_1t2 R59_1p2 R59_1t3 [4] [2,4,6,7,8,9,10,11,12,13,14,15,16,17,18,19,20] [⟨some 16,.fieldAddr 5 (.t 4),some (14,true)⟩]
def X59_1t3:=hO R59_1t3 R59_1p3 R59_1t4 [16] [2,4,6,7,8,9,10,11,12,13,14,15,16,17,18,19,20] [⟨some 17,.load false 1 (.t 16),some (14,true)⟩]
def X59_1t4:=hO R59_1t4 R59_1p4 R59_1t5 [15,17] [2,4,6,7,8,9,10,11,12,13,14,15,16,17,18,19,20] [⟨some 18,.call (.c (.fn 45 [] [])) [(.t 15),(.t 17)],some (14,true)⟩]
def T59_1t5:=hT R59_1t5 [2,4,6,7,8,9,10,11,12,13,14,15,16,17,18,19,20] [5] 21 [] [(5,(.pick (.t 14) (.op (.bin .lss (.t 0) (.c (.s (.int .i64 0)))) [(.t 18),(.c (.s (.int .i64 0)))]) (.c (.s (.bool false)))))] [.sub 0 [1] [14],.sub 0 [] [],.sub 0 [] []]
def X59_1t5:=hL R59_1t5 [2,4,6,7,8,9,10,11,12,13,14,15,16,17,18,19,20] [5]
def s_f59:ACFun:={ ntmps:=21,results:=[(.tmp 5)],body:=
 (.seq (.region R59_0 [] K59_0)
 (.seq (.region R59_1 [] [2,4,6,7,8,9,10,11,12,13,14,15,16,17,18,19,20])
 .ret)) }
theorem s_f59_first:firstOk (List.range' 3 (s_f59.ntmps - 3)) s_f59.body=true:=by kernel_rfl
abbrev k_f60:Nat:=60
def K60_0:List Nat:=[0,1,3,5,6,7,8,9,10,11,12,13,14,15,16,17,18,19,20,21,22,23,24,25,26,27,28,29,30,31,32,33]
theorem A60_0_0:K60_0.contains 0=true:=by kernel_rfl
theorem A60_0_1:K60_0.contains 1=true:=by kernel_rfl
def A60_0_2:=hK K60_0 2
theorem A60_0_3:K60_0.contains 3=true:=by kernel_rfl
def A60_0_4:=hK K60_0 4
theorem A60_0_5:K60_0.contains 5=true:=by kernel_rfl
def R60_0t2:List AOper:=[⟨some 5,.move (.c (.s (.bool false))),none⟩]
def R60_0p1:List AOper:=[⟨some 4,.box (.t 1),none⟩]
def R60_0t1:List AOper:=R60_0p1 ++ R60_0t2
def R60_0p0:List AOper:=[⟨some 3,.box (.t 0),none⟩]
def R60_0:List AOper:=R60_0p0 ++ R60_0t1
def X60_0:=hO R60_0 R60_0p0 R60_0t1 [0,3,4,5,6,7,8,9,10,11,12,13,14,15,16,17,18,19,20,21,22,23,24,25,26,27,28,29,30,31,32,33] K60_0 [⟨some 3,.box (.t 0),none⟩]
def X60_0t1:=hO R60_0t1 R60_0p1 R60_0t2 [1] K60_0 [⟨some 4,.box (.t 1),none⟩]
def T60_0t2:=hT R60_0t2 K60_0 [] 6 [] [] [.cc (.s (.bool false))]
def X60_0t2:=hL R60_0t2 K60_0 []
def R60_1t2:List AOper:=[⟨some 6,.move (.t 10),none⟩]
def R60_1p1:List AOper:=[⟨some 10,.call (.c (.fn 45 [] [])) [(.t 7),(.t 9)],none⟩]
def R60_1t1:List AOper:=R60_1p1 ++ R60_1t2
def R60_1p0:List AOper:=[⟨some 7,.load false 1 (.t 2),none⟩,⟨some 8,.fieldAddr 5 (.t 4),none⟩,⟨some 9,.load false 1 (.t 8),none⟩]
def R60_1:List AOper:=R60_1p0 ++ R60_1t1
def T60_1p0:=hT R60_1p0 [8] [7,9] 10 [] [(7,(.op (.load false 1 (.t 0)) [(.t 2)])),(9,(.op (.load false 1 (.t 0)) [(.op (.fieldAddr 5 (.t 0)) [(.t 4)])]))] [.sub 0 [] [],.sub 1 [0] [],.sub 1 [] []]
def X60_1:=hS R60_1 R60_1p0 R60_1t1 [8] [7,9] [7,8,9,10]
def X60_1t1:=hO R60_1t1 R60_1p1 R60_1t2 [7,9] [7,8,9,10] [⟨some 10,.call (.c (.fn 45 [] [])) [(.t 7),(.t 9)],none⟩]
def T60_1t2:=hT R60_1t2 [7,8,9,10] [6] 7 [] [(6,(.t 10))] [.tt 10]
def X60_1t2:=hL R60_1t2 [7,8,9,10] [6]
def R60_2:List AOper:=[
 ⟨some 11,.fieldAddr 0 (.t 4),none⟩,
 ⟨some 12,.load false 1 (.t 11),none⟩,
 ⟨some 13,.bin .eql (.t 12) (.c (.s (.int .u8 10))),none⟩,
 ⟨some 14,.move (.t 13),none⟩,
 ⟨some 15,.move (.t 6),some (14,true)⟩,
 ⟨some 16,.bin .geq (.t 15) (.c (.s (.int .i64 0))),some (14,true)⟩,
 ⟨some 17,.pick (.t 14) (.t 16) (.c (.s (.bool false))),none⟩,
 ⟨some 18,.move (.t 17),none⟩,
 ⟨some 19,.load false 1 (.t 2),some (18,true)⟩,
 ⟨some 20,.nilCheck (.t 19),some (18,true)⟩,
 ⟨some 21,.fieldAddr 0 (.t 20),some (18,true)⟩,
 ⟨some 22,.fieldAddr 0 (.t 21),some (18,true)⟩,
 ⟨some 23,.load false 1 (.t 22),some (18,true)⟩,
 ⟨some 24,.move (.t 6),some (18,true)⟩,
 ⟨some 25,.indexAddr 3 (.t 23) (.t 24),some (18,true)⟩,
 ⟨some 26,.fieldAddr 1 (.t 25),some (18,true)⟩,
 ⟨some 27,.load false 1 (.t 26),some (18,true)⟩,
 ⟨some 28,.lenS .s (.t 27),some (18,true)⟩,
 ⟨some 29,.fieldAddr 6 (.t 4),some (18,true)⟩,
 ⟨some 30,.load false 1 (.t 29),some (18,true)⟩,
 ⟨some 31,.lenS .s (.t 30),some (18,true)⟩,
 ⟨some 32,.bin .neq (.t 28) (.t 31),some (18,true)⟩,
 ⟨some 33,.pick (.t 18) (.t 32) (.c (.s (.bool false))),none⟩,
 ⟨some 5,.move (.t 33),none⟩]
def T60_2:=hT R60_2 [2,4,6,11,12,13,14,15,16,17,18,19,20,21,22,23,24,25,26,27,28,29,30,31,32,33] [5] 34 [] [(5,(.pick (.pick (.op (.bin .eql (.t 0) (.c (.s (.int .u8 10)))) [(.op (.load false 1 (.t 0)) [(.op (.fieldAddr 0 (.t 0)) [(.t 4)])]),(.c (.s (.int .u8 10)))]) (.op (.bin .geq (.t 0) (.c (.s (.int .i64 0)))) [(.t 6),(.c (.s (.int .i64 0)))]) (.c (.s (.bool false)))) (.op (.bin .neq (.t 0) (.t 1)) [(.op (.lenS .s (.t 0)) [(.op (.load false 1 (.t 0)) [(.op (.fieldAddr 1 (.t 0)) [(.op (.indexAddr 3 (.t 0) (.t 1)) [(.op (.load false 1 (.t 0)) [(.op (.fieldAddr 0 (.t 0)) [(.op (.fieldAddr 0 (.t 0)) [(.op (.nilCheck (.t 0)) [(.op (.load false 1 (.t 0)) [(.t 2)])])])])]),(.t 6)])])])]),(.op (.lenS .s (.t 0)) [(.op (.load false 1 (.t 0)) [(.op (.fieldAddr 6 (.t 0)) [(.t 4)])])])]) (.c (.s (.bool false)))))] [.sub 0 [0,0,0,0] [],.sub 0 [0,0,0] [],.sub 0 [0,0] [],.sub 0 [0,0] [],.sub 0 [0,1,0] [14],.sub 0 [0,1] [14],.sub 0 [0] [],.sub 0 [0] [],.sub 0 [1,0,0,0,0,0,0,0,0,0] [18],.sub 0 [1,0,0,0,0,0,0,0,0] [18],.sub 0 [1,0,0,0,0,0,0,0] [18],.sub 0 [1,0,0,0,0,0,0] [18],.sub 0 [1,0,0,0,0,0] [18],.sub 0 [1,0,0,0,0,1] [18],.sub 0 [1,0,0,0,0] [18],.sub 0 [1,0,0,0] [18],.sub 0 [1,0,0] [18],.sub 0 [1,0] [18],.sub 0 [1,1,0,0] [18],.sub 0 [1,1,0] [18],.sub 0 [1,1] [18],.sub 0 [1] [18],.sub 0 [] [],.sub 0 [] []]
def s_f60:ACFun:={ ntmps:=34,results:=[(.tmp 5)],body:=
 (.seq (.region R60_0 [] K60_0)
 (.seq (.region R60_1 [] [7,8,9,10])
 (.seq (.regionE R60_2 [2,4,6,11,12,13,14,15,16,17,18,19,20,21,22,23,24,25,26,27,28,29,30,31,32,33] [5])
 .ret))) }
theorem s_f60_first:firstOk (List.range' 3 (s_f60.ntmps - 3)) s_f60.body=true:=by kernel_rfl
abbrev k_f61:Nat:=61
def K61_0:List Nat:=[2,3,4,5,6,7]
theorem s_f61_r0_kT:killV K61_0 (startV 8 [] 2)=[]:=by kernel_rfl
def s_f61_r0_kA0:=hK K61_0 0
def s_f61_r0_kA1:=hK K61_0 1
def R61_0:List AOper:=[
 ⟨some 3,.move (.c (.s (.bool false))),none⟩]
def T61_0:=hT R61_0 K61_0 [] 4 [] [] [.cc (.s (.bool false))]
def R61_1:List AOper:=[
 ⟨some 4,.load false 1 (.t 1),none⟩,
 ⟨some 5,.move (.t 0),none⟩,
 ⟨some 6,.mapGet .string (.s (.bool false)) (.t 4) (.t 5) false,none⟩,
 ⟨some 7,.un .not (.t 6),none⟩,
 ⟨some 3,.move (.t 7),none⟩]
def T61_1:=hT R61_1 [0,1,4,5,6,7] [3] 8 [] [(3,(.op (.un .not (.t 0)) [(.op (.mapGet .string (.s (.bool false)) (.t 0) (.t 1) false) [(.op (.load false 1 (.t 0)) [(.t 1)]),(.t 0)])]))] [.sub 0 [0,0] [],.tt 0,.sub 0 [0] [],.sub 0 [] [],.sub 0 [] []]
def s_f61:ACFun:={ ntmps:=8,results:=[(.tmp 3)],body:=
 (.seq (.regionE R61_0 K61_0 [])
 (.seq (.regionE R61_1 [0,1,4,5,6,7] [3])
 .ret)) }
abbrev k_f62:Nat:=62
def K62_0:List Nat:=[2,3,4,5,6,7,8,9,10,11,12,13,14,15,16,17,18]
theorem s_f62_r0_kT:killV K62_0 (startV 19 [] 2)=[]:=by kernel_rfl
def s_f62_r0_kA0:=hK K62_0 0
def s_f62_r0_kA1:=hK K62_0 1
def R62_0:List AOper:=[
 ⟨some 4,.move (.c (.s (.int .i64 0))),none⟩]
def T62_0:=hT R62_0 K62_0 [] 5 [] [] [.cc (.s (.int .i64 0))]
def R62_1:List AOper:=[
 ⟨some 6,.move (.t 0),none⟩,
 ⟨some 7,.lenS .s (.t 6),none⟩,
 ⟨some 8,.move (.c (.s (.int .i64 0))),none⟩]
def T62_1:=hT R62_1 [6] [7,8] 9 [] [(7,(.op (.lenS .s (.t 0)) [(.t 0)])),(8,(.c (.s (.int .i64 0))))] [.tt 0,.sub 0 [] [],.cc (.s (.int .i64 0))]
def R62_2:List AOper:=[
 ⟨some 9,.bin .lss (.t 8) (.t 7),none⟩]
def T62_2:=hT R62_2 [] [9] 10 [] [(9,(.op (.bin .lss (.t 0) (.t 1)) [(.t 8),(.t 7)]))] [.sub 0 [] []]
def R62_3:List AOper:=[
 ⟨some 10,.move (.t 8),none⟩,
 ⟨some 5,.move (.t 10),none⟩]
def T62_3:=hT R62_3 [9,10] [5] 11 [] [(5,(.t 8))] [.tt 8,.tt 8]
def R62_4t1:List AOper:=[⟨some 16,.call (.t 11) [(.t 15)],none⟩]
def R62_4p0:List AOper:=[⟨some 11,.move (.t 1),none⟩,⟨some 12,.move (.t 0),none⟩,⟨some 13,.move (.t 5),none⟩,⟨some 14,.indexAddr 1 (.t 12) (.t 13),none⟩,⟨some 15,.load false 1 (.t 14),none⟩]
def R62_4:List AOper:=R62_4p0 ++ R62_4t1
def T62_4p0:=hT R62_4p0 [12,13,14] [11,15] 16 [] [(11,(.t 1)),(15,(.op (.load false 1 (.t 0)) [(.op (.indexAddr 1 (.t 0) (.t 1)) [(.t 0),(.t 5)])]))] [.tt 1,.tt 0,.tt 5,.sub 1 [0] [],.sub 1 [] []]
def X62_4:=hS R62_4 R62_4p0 R62_4t1 [12,13,14] [11,15] [11,12,13,14,15]
def X62_4t1:=hX R62_4t1 [11,12,13,14,15] [⟨some 16,.call (.t 11) [(.t 15)],none⟩]
def R62_5:List AOper:=[
 ⟨some 17,.move (.t 5),none⟩,
 ⟨some 4,.move (.t 17),none⟩]
def T62_5:=hT R62_5 [0,1,5,7,8,16,17] [4] 18 [] [(4,(.t 5))] [.tt 5,.tt 5]
def R62_6:List AOper:=[
 ⟨some 18,.bin .add (.t 8) (.c (.s (.int .i64 1))),none⟩,
 ⟨some 8,.move (.t 18),none⟩]
def T62_6:=hT R62_6 [5,16,18] [8] 19 [] [(8,(.op (.bin .add (.t 0) (.c (.s (.int .i64 1)))) [(.t 8),(.c (.s (.int .i64 1)))]))] [.sub 0 [] [],.sub 0 [] []]
def s_f62_l0_b:ACode:=
 (.seq (.regionE R62_2 [] [9])
 (.seq (.cond (.t 9)
 .skip
 (.exit 0))
 (.seq (.block 1
 (.seq (.regionE R62_3 [9,10] [5])
 (.seq (.region R62_4 [] [11,12,13,14,15])
 (.cond (.t 16)
 (.seq (.regionE R62_5 [0,1,5,7,8,16,17] [4])
 .ret)
 .skip))))
 (.regionE R62_6 [5,16,18] [8]))))
def s_f62_l0:ACode:=s_f62_l0_b
def s_f62_l0_ev:=hE s_f62_l0 s_f62_l0_b
def R62_7:List AOper:=[
 ⟨some 4,.move (.c (.s (.int .i64 (-1)))),none⟩]
def T62_7:=hT R62_7 [0,1,7,8,9] [4] 5 [] [(4,(.c (.s (.int .i64 (-1)))))] [.cc (.s (.int .i64 (-1)))]
def s_f62:ACFun:={ ntmps:=19,results:=[(.tmp 4)],body:=
 (.seq (.regionE R62_0 K62_0 [])
 (.seq (.seq (.regionE R62_1 [6] [7,8])
 (.block 0
 (.loop [] s_f62_l0)))
 (.seq (.regionE R62_7 [0,1,7,8,9] [4])
 .ret))) }
abbrev k_f63:Nat:=63
def K63_0:List Nat:=[2,3,4,5,6,7,8,9,10,11,12,13,14,15,16,17,18]
theorem s_f63_r0_kT:killV K63_0 (startV 19 [] 2)=[]:=by kernel_rfl
def s_f63_r0_kA0:=hK K63_0 0
def s_f63_r0_kA1:=hK K63_0 1
def R63_0:List AOper:=[
 ⟨some 3,.move (.c (.s (.bool false))),none⟩]
def T63_0:=hT R63_0 K63_0 [] 4 [] [] [.cc (.s (.bool false))]
def R63_1t3:List AOper:=[⟨some 9,.un .not (.t 8),some (6,true)⟩,⟨some 10,.pick (.t 6) (.t 9) (.c (.s (.bool false))),none⟩,⟨some 11,.move (.t 10),none⟩,⟨some 12,.load false 1 (.t 1),some (11,true)⟩,⟨some 13,.move (.t 12),some (11,true)⟩,⟨some 14,.move (.t 0),some (13,true)⟩,⟨some 15,.bin .eql (.t 14) (.c (.s (.string ⟨#[110,117,108,108]⟩))),some (13,true)⟩,⟨some 16,.pick (.t 13) (.t 15) (.c (.s (.bool false))),some (11,true)⟩,⟨some 17,.un .not (.t 16),some (11,true)⟩,⟨some 18,.pick (.t 11) (.t 17) (.c (.s (.bool false))),none⟩,⟨some 3,.move (.t 18),none⟩]
def R63_1p2:List AOper:=[⟨some 8,.call (.c (.fn 7 [] [])) [(.t 7)],some (6,true)⟩]
def R63_1t2:List AOper:=R63_1p2 ++ R63_1t3
def R63_1p1:List AOper:=[⟨some 7,.move (.t 0),some (6,true)⟩]
def R63_1t1:List AOper:=R63_1p1 ++ R63_1t2
def R63_1p0:List AOper:=[⟨some 4,.move (.t 0),none⟩,⟨some 5,.bin .neq (.t 4) (.c (.s (.string ⟨#[]⟩))),none⟩,⟨some 6,.move (.t 5),none⟩]
def R63_1:List AOper:=R63_1p0 ++ R63_1t1
def T63_1p0:=hT R63_1p0 [4,5] [6] 7 [] [(6,(.op (.bin .neq (.t 0) (.c (.s (.string ⟨#[]⟩)))) [(.t 0),(.c (.s (.string ⟨#[]⟩)))]))] [.tt 0,.sub 0 [] [],.sub 0 [] []]
def X63_1:=hS R63_1 R63_1p0 R63_1t1 [4,5] [6] [0,1,4,5,6,7,8,9,10,11,12,13,14,15,16,17,18]
def X63_1t1:=hO R63_1t1 R63_1p1 R63_1t2 [] [0,1,4,5,6,7,8,9,10,11,12,13,14,15,16,17,18] [⟨some 7,.move (.t 0),some (6,true)⟩]
def X63_1t2:=hO R63_1t2 R63_1p2 R63_1t3 [7] [0,1,4,5,6,7,8,9,10,11,12,13,14,15,16,17,18] [⟨some 8,.call (.c (.fn 7 [] [])) [(.t 7)],some (6,true)⟩]
def T63_1t3:=hT R63_1t3 [0,1,4,5,6,7,8,9,10,11,12,13,14,15,16,17,18] [3] 19 [] [(3,(.pick (.pick (.t 6) (.op (.un .not (.t 0)) [(.t 8)]) (.c (.s (.bool false)))) (.op (.un .not (.t 0)) [(.pick (.op (.load false 1 (.t 0)) [(.t 1)]) (.op (.bin .eql (.t 0) (.c (.s (.string ⟨#[110,117,108,108]⟩)))) [(.t 0),(.c (.s (.string ⟨#[110,117,108,108]⟩)))]) (.c (.s (.bool false))))]) (.c (.s (.bool false)))))] [.sub 0 [0,1] [6],.sub 0 [0] [],.sub 0 [0] [],.sub 0 [1,0,0] [11],.sub 0 [1,0,0] [11],.sub 0 [1,0,1,0] [11,13],.sub 0 [1,0,1] [11,13],.sub 0 [1,0] [11],.sub 0 [1] [11],.sub 0 [] [],.sub 0 [] []]
def X63_1t3:=hL R63_1t3 [0,1,4,5,6,7,8,9,10,11,12,13,14,15,16,17,18] [3]
def s_f63:ACFun:={ ntmps:=19,results:=[(.tmp 3)],body:=
 (.seq (.regionE R63_0 K63_0 [])
 (.seq (.region R63_1 [] [0,1,4,5,6,7,8,9,10,11,12,13,14,15,16,17,18])
 .ret)) }
abbrev k_f64:Nat:=64
def K64_0:List Nat:=[2,3,4,5,6,7,8,9,10,11,12,13,14,15,16,17,18]
theorem s_f64_r0_kT:killV K64_0 (startV 19 [] 2)=[]:=by kernel_rfl
def s_f64_r0_kA0:=hK K64_0 0
def s_f64_r0_kA1:=hK K64_0 1
def R64_0:List AOper:=[
 ⟨some 4,.move (.c (.s (.int .i64 0))),none⟩]
def T64_0:=hT R64_0 K64_0 [] 5 [] [] [.cc (.s (.int .i64 0))]
def R64_1:List AOper:=[
 ⟨some 6,.move (.t 0),none⟩,
 ⟨some 7,.lenS .s (.t 6),none⟩,
 ⟨some 8,.move (.c (.s (.int .i64 0))),none⟩]
def T64_1:=hT R64_1 [6] [7,8] 9 [] [(7,(.op (.lenS .s (.t 0)) [(.t 0)])),(8,(.c (.s (.int .i64 0))))] [.tt 0,.sub 0 [] [],.cc (.s (.int .i64 0))]
def R64_2:List AOper:=[
 ⟨some 9,.bin .lss (.t 8) (.t 7),none⟩]
def T64_2:=hT R64_2 [] [9] 10 [] [(9,(.op (.bin .lss (.t 0) (.t 1)) [(.t 8),(.t 7)]))] [.sub 0 [] []]
def R64_3:List AOper:=[
 ⟨some 10,.move (.t 8),none⟩,
 ⟨some 5,.move (.t 10),none⟩]
def T64_3:=hT R64_3 [9,10] [5] 11 [] [(5,(.t 8))] [.tt 8,.tt 8]
def R64_4:List AOper:=[
 ⟨some 11,.move (.t 1),none⟩,
 ⟨some 12,.move (.t 0),none⟩,
 ⟨some 13,.move (.t 5),none⟩,
 ⟨some 14,.indexAddr 1 (.t 12) (.t 13),none⟩,
 ⟨some 15,.load false 1 (.t 14),none⟩,
 ⟨some 16,.bin .eql (.t 11) (.t 15),none⟩]
def T64_4:=hT R64_4 [11,12,13,14,15] [16] 17 [] [(16,(.op (.bin .eql (.t 0) (.t 1)) [(.t 1),(.op (.load false 1 (.t 0)) [(.op (.indexAddr 1 (.t 0) (.t 1)) [(.t 0),(.t 5)])])]))] [.tt 1,.tt 0,.tt 5,.sub 0 [1,0] [],.sub 0 [1] [],.sub 0 [] []]
def R64_5:List AOper:=[
 ⟨some 17,.move (.t 5),none⟩,
 ⟨some 4,.move (.t 17),none⟩]
def T64_5:=hT R64_5 [0,1,5,7,8,16,17] [4] 18 [] [(4,(.t 5))] [.tt 5,.tt 5]
def R64_6:List AOper:=[
 ⟨some 18,.bin .add (.t 8) (.c (.s (.int .i64 1))),none⟩,
 ⟨some 8,.move (.t 18),none⟩]
def T64_6:=hT R64_6 [5,16,18] [8] 19 [] [(8,(.op (.bin .add (.t 0) (.c (.s (.int .i64 1)))) [(.t 8),(.c (.s (.int .i64 1)))]))] [.sub 0 [] [],.sub 0 [] []]
def s_f64_l0_b:ACode:=
 (.seq (.regionE R64_2 [] [9])
 (.seq (.cond (.t 9)
 .skip
 (.exit 0))
 (.seq (.block 1
 (.seq (.regionE R64_3 [9,10] [5])
 (.seq (.regionE R64_4 [11,12,13,14,15] [16])
 (.cond (.t 16)
 (.seq (.regionE R64_5 [0,1,5,7,8,16,17] [4])
 .ret)
 .skip))))
 (.regionE R64_6 [5,16,18] [8]))))
def s_f64_l0:ACode:=s_f64_l0_b
def s_f64_l0_ev:=hE s_f64_l0 s_f64_l0_b
def R64_7:List AOper:=[
 ⟨some 4,.move (.c (.s (.int .i64 (-1)))),none⟩]
def T64_7:=hT R64_7 [0,1,7,8,9] [4] 5 [] [(4,(.c (.s (.int .i64 (-1)))))] [.cc (.s (.int .i64 (-1)))]
def s_f64:ACFun:={ ntmps:=19,results:=[(.tmp 4)],body:=
 (.seq (.regionE R64_0 K64_0 [])
 (.seq (.seq (.regionE R64_1 [6] [7,8])
 (.block 0
 (.loop [] s_f64_l0)))
 (.seq (.regionE R64_7 [0,1,7,8,9] [4])
 .ret))) }
abbrev k_f65:Nat:=65
def K65_0:List Nat:=[2,3,4,5,6,7,8,9,10,11,12,13,14,15,16,17,18]
theorem s_f65_r0_kT:killV K65_0 (startV 19 [] 2)=[]:=by kernel_rfl
def s_f65_r0_kA0:=hK K65_0 0
def s_f65_r0_kA1:=hK K65_0 1
def R65_0:List AOper:=[
 ⟨some 4,.move (.c (.s (.int .i64 0))),none⟩]
def T65_0:=hT R65_0 K65_0 [] 5 [] [] [.cc (.s (.int .i64 0))]
def R65_1:List AOper:=[
 ⟨some 6,.move (.t 0),none⟩,
 ⟨some 7,.lenS .s (.t 6),none⟩,
 ⟨some 8,.move (.c (.s (.int .i64 0))),none⟩]
def T65_1:=hT R65_1 [6] [7,8] 9 [] [(7,(.op (.lenS .s (.t 0)) [(.t 0)])),(8,(.c (.s (.int .i64 0))))] [.tt 0,.sub 0 [] [],.cc (.s (.int .i64 0))]
def R65_2:List AOper:=[
 ⟨some 9,.bin .lss (.t 8) (.t 7),none⟩]
def T65_2:=hT R65_2 [] [9] 10 [] [(9,(.op (.bin .lss (.t 0) (.t 1)) [(.t 8),(.t 7)]))] [.sub 0 [] []]
def R65_3:List AOper:=[
 ⟨some 10,.move (.t 8),none⟩,
 ⟨some 5,.move (.t 10),none⟩]
def T65_3:=hT R65_3 [9,10] [5] 11 [] [(5,(.t 8))] [.tt 8,.tt 8]
def R65_4t1:List AOper:=[⟨some 16,.call (.t 11) [(.t 15)],none⟩]
def R65_4p0:List AOper:=[⟨some 11,.move (.t 1),none⟩,⟨some 12,.move (.t 0),none⟩,⟨some 13,.move (.t 5),none⟩,⟨some 14,.indexAddr 3 (.t 12) (.t 13),none⟩,⟨some 15,.load true 3 (.t 14),none⟩]
def R65_4:List AOper:=R65_4p0 ++ R65_4t1
def T65_4p0:=hT R65_4p0 [12,13,14] [11,15] 16 [] [(11,(.t 1)),(15,(.op (.load true 3 (.t 0)) [(.op (.indexAddr 3 (.t 0) (.t 1)) [(.t 0),(.t 5)])]))] [.tt 1,.tt 0,.tt 5,.sub 1 [0] [],.sub 1 [] []]
def X65_4:=hS R65_4 R65_4p0 R65_4t1 [12,13,14] [11,15] [11,12,13,14,15]
def X65_4t1:=hX R65_4t1 [11,12,13,14,15] [⟨some 16,.call (.t 11) [(.t 15)],none⟩]
def R65_5:List AOper:=[
 ⟨some 17,.move (.t 5),none⟩,
 ⟨some 4,.move (.t 17),none⟩]
def T65_5:=hT R65_5 [0,1,5,7,8,16,17] [4] 18 [] [(4,(.t 5))] [.tt 5,.tt 5]
def R65_6:List AOper:=[
 ⟨some 18,.bin .add (.t 8) (.c (.s (.int .i64 1))),none⟩,
 ⟨some 8,.move (.t 18),none⟩]
def T65_6:=hT R65_6 [5,16,18] [8] 19 [] [(8,(.op (.bin .add (.t 0) (.c (.s (.int .i64 1)))) [(.t 8),(.c (.s (.int .i64 1)))]))] [.sub 0 [] [],.sub 0 [] []]
def s_f65_l0_b:ACode:=
 (.seq (.regionE R65_2 [] [9])
 (.seq (.cond (.t 9)
 .skip
 (.exit 0))
 (.seq (.block 1
 (.seq (.regionE R65_3 [9,10] [5])
 (.seq (.region R65_4 [] [11,12,13,14,15])
 (.cond (.t 16)
 (.seq (.regionE R65_5 [0,1,5,7,8,16,17] [4])
 .ret)
 .skip))))
 (.regionE R65_6 [5,16,18] [8]))))
def s_f65_l0:ACode:=s_f65_l0_b
def s_f65_l0_ev:=hE s_f65_l0 s_f65_l0_b
def R65_7:List AOper:=[
 ⟨some 4,.move (.c (.s (.int .i64 (-1)))),none⟩]
def T65_7:=hT R65_7 [0,1,7,8,9] [4] 5 [] [(4,(.c (.s (.int .i64 (-1)))))] [.cc (.s (.int .i64 (-1)))]
def s_f65:ACFun:={ ntmps:=19,results:=[(.tmp 4)],body:=
 (.seq (.regionE R65_0 K65_0 [])
 (.seq (.seq (.regionE R65_1 [6] [7,8])
 (.block 0
 (.loop [] s_f65_l0)))
 (.seq (.regionE R65_7 [0,1,7,8,9] [4])
 .ret))) }
abbrev k_f66:Nat:=66
def K66_0:List Nat:=[0,3,4,5,6,7]
theorem A66_0_0:K66_0.contains 0=true:=by kernel_rfl
def A66_0_1:=hK K66_0 1
def A66_0_2:=hK K66_0 2
theorem A66_0_3:K66_0.contains 3=true:=by kernel_rfl
def R66_0t1:List AOper:=[⟨some 3,.move (.c (.s (.bool false))),none⟩]
def R66_0p0:List AOper:=[⟨some 2,.box (.t 0),none⟩]
def R66_0:List AOper:=R66_0p0 ++ R66_0t1
def X66_0:=hO R66_0 R66_0p0 R66_0t1 [0,3,4,5,6,7] K66_0 [⟨some 2,.box (.t 0),none⟩]
def T66_0t1:=hT R66_0t1 K66_0 [] 4 [] [] [.cc (.s (.bool false))]
def X66_0t1:=hL R66_0t1 K66_0 []
def R66_1:List AOper:=[
 ⟨some 4,.fieldAddr 0 (.t 2),none⟩,
 ⟨some 5,.load false 1 (.t 4),none⟩,
 ⟨some 6,.load false 1 (.t 1),none⟩,
 ⟨some 7,.bin .eql (.t 5) (.t 6),none⟩,
 ⟨some 3,.move (.t 7),none⟩]
def T66_1:=hT R66_1 [1,2,4,5,6,7] [3] 8 [] [(3,(.op (.bin .eql (.t 0) (.t 1)) [(.op (.load false 1 (.t 0)) [(.op (.fieldAddr 0 (.t 0)) [(.t 2)])]),(.op (.load false 1 (.t 0)) [(.t 1)])]))] [.sub 0 [0,0] [],.sub 0 [0] [],.sub 0 [1] [],.sub 0 [] [],.sub 0 [] []]
def s_f66:ACFun:={ ntmps:=8,results:=[(.tmp 3)],body:=
 (.seq (.region R66_0 [] K66_0)
 (.seq (.regionE R66_1 [1,2,4,5,6,7] [3])
 .ret)) }
theorem s_f66_first:firstOk (List.range' 2 (s_f66.ntmps - 2)) s_f66.body=true:=by kernel_rfl
abbrev k_f67:Nat:=67
def K67_0:List Nat:=[0,2,3]
theorem A67_0_0:K67_0.contains 0=true:=by kernel_rfl
def A67_0_1:=hK K67_0 1
theorem A67_0_2:K67_0.contains 2=true:=by kernel_rfl
def R67_0t1:List AOper:=[⟨some 2,.move (.c (.s .nilFunc)),none⟩]
def R67_0p0:List AOper:=[⟨some 1,.box (.t 0),none⟩]
def R67_0:List AOper:=R67_0p0 ++ R67_0t1
def X67_0:=hO R67_0 R67_0p0 R67_0t1 [0,2,3] K67_0 [⟨some 1,.box (.t 0),none⟩]
def T67_0t1:=hT R67_0t1 K67_0 [] 3 [] [] [.cc (.s .nilFunc)]
def X67_0t1:=hL R67_0t1 K67_0 []
def R67_1:List AOper:=[
 ⟨some 3,.mkFn 70 [] [(.t 1)],none⟩,
 ⟨some 2,.move (.t 3),none⟩]
def T67_1:=hT R67_1 [1,3] [2] 4 [] [(2,(.op (.mkFn 70 [] [(.t 0)]) [(.t 1)]))] [.sub 0 [] [],.sub 0 [] []]
def s_f67:ACFun:={ ntmps:=4,results:=[(.tmp 2)],body:=
 (.seq (.region R67_0 [] K67_0)
 (.seq (.regionE R67_1 [1,3] [2])
 .ret)) }
theorem s_f67_first:firstOk (List.range' 1 (s_f67.ntmps - 1)) s_f67.body=true:=by kernel_rfl
abbrev k_f68:Nat:=68
def K68_0:List Nat:=[2,3,4,5,6,7,8,9,10,11,12,13,14,15,16,17,18]
theorem s_f68_r0_kT:killV K68_0 (startV 19 [] 2)=[]:=by kernel_rfl
def s_f68_r0_kA0:=hK K68_0 0
def s_f68_r0_kA1:=hK K68_0 1
def R68_0:List AOper:=[
 ⟨some 4,.move (.c (.s (.int .i64 0))),none⟩]
def T68_0:=hT R68_0 K68_0 [] 5 [] [] [.cc (.s (.int .i64 0))]
def R68_1:List AOper:=[
 ⟨some 6,.move (.t 0),none⟩,
 ⟨some 7,.lenS .s (.t 6),none⟩,
 ⟨some 8,.move (.c (.s (.int .i64 0))),none⟩]
def T68_1:=hT R68_1 [6] [7,8] 9 [] [(7,(.op (.lenS .s (.t 0)) [(.t 0)])),(8,(.c (.s (.int .i64 0))))] [.tt 0,.sub 0 [] [],.cc (.s (.int .i64 0))]
def R68_2:List AOper:=[
 ⟨some 9,.bin .lss (.t 8) (.t 7),none⟩]
def T68_2:=hT R68_2 [] [9] 10 [] [(9,(.op (.bin .lss (.t 0) (.t 1)) [(.t 8),(.t 7)]))] [.sub 0 [] []]
def R68_3:List AOper:=[
 ⟨some 10,.move (.t 8),none⟩,
 ⟨some 5,.move (.t 10),none⟩]
def T68_3:=hT R68_3 [9,10] [5] 11 [] [(5,(.t 8))] [.tt 8,.tt 8]
def R68_4t1:List AOper:=[⟨some 16,.call (.t 11) [(.t 15)],none⟩]
def R68_4p0:List AOper:=[⟨some 11,.move (.t 1),none⟩,⟨some 12,.move (.t 0),none⟩,⟨some 13,.move (.t 5),none⟩,⟨some 14,.indexAddr 8 (.t 12) (.t 13),none⟩,⟨some 15,.load true 8 (.t 14),none⟩]
def R68_4:List AOper:=R68_4p0 ++ R68_4t1
def T68_4p0:=hT R68_4p0 [12,13,14] [11,15] 16 [] [(11,(.t 1)),(15,(.op (.load true 8 (.t 0)) [(.op (.indexAddr 8 (.t 0) (.t 1)) [(.t 0),(.t 5)])]))] [.tt 1,.tt 0,.tt 5,.sub 1 [0] [],.sub 1 [] []]
def X68_4:=hS R68_4 R68_4p0 R68_4t1 [12,13,14] [11,15] [11,12,13,14,15]
def X68_4t1:=hX R68_4t1 [11,12,13,14,15] [⟨some 16,.call (.t 11) [(.t 15)],none⟩]
def R68_5:List AOper:=[
 ⟨some 17,.move (.t 5),none⟩,
 ⟨some 4,.move (.t 17),none⟩]
def T68_5:=hT R68_5 [0,1,5,7,8,16,17] [4] 18 [] [(4,(.t 5))] [.tt 5,.tt 5]
def R68_6:List AOper:=[
 ⟨some 18,.bin .add (.t 8) (.c (.s (.int .i64 1))),none⟩,
 ⟨some 8,.move (.t 18),none⟩]
def T68_6:=hT R68_6 [5,16,18] [8] 19 [] [(8,(.op (.bin .add (.t 0) (.c (.s (.int .i64 1)))) [(.t 8),(.c (.s (.int .i64 1)))]))] [.sub 0 [] [],.sub 0 [] []]
def s_f68_l0_b:ACode:=
 (.seq (.regionE R68_2 [] [9])
 (.seq (.cond (.t 9)
 .skip
 (.exit 0))
 (.seq (.block 1
 (.seq (.regionE R68_3 [9,10] [5])
 (.seq (.region R68_4 [] [11,12,13,14,15])
 (.cond (.t 16)
 (.seq (.regionE R68_5 [0,1,5,7,8,16,17] [4])
 .ret)
 .skip))))
 (.regionE R68_6 [5,16,18] [8]))))
def s_f68_l0:ACode:=s_f68_l0_b
def s_f68_l0_ev:=hE s_f68_l0 s_f68_l0_b
def R68_7:List AOper:=[
 ⟨some 4,.move (.c (.s (.int .i64 (-1)))),none⟩]
def T68_7:=hT R68_7 [0,1,7,8,9] [4] 5 [] [(4,(.c (.s (.int .i64 (-1)))))] [.cc (.s (.int .i64 (-1)))]
def s_f68:ACFun:={ ntmps:=19,results:=[(.tmp 4)],body:=
 (.seq (.regionE R68_0 K68_0 [])
 (.seq (.seq (.regionE R68_1 [6] [7,8])
 (.block 0
 (.loop [] s_f68_l0)))
 (.seq (.regionE R68_7 [0,1,7,8,9] [4])
 .ret))) }
abbrev k_f69:Nat:=69
def K69_0:List Nat:=[2,3,4,5,6,7,8,9,10,11,12,13,14,15,16,17,18]
theorem s_f69_r0_kT:killV K69_0 (startV 19 [] 2)=[]:=by kernel_rfl
def s_f69_r0_kA0:=hK K69_0 0
def s_f69_r0_kA1:=hK K69_0 1
def R69_0:List AOper:=[
 ⟨some 4,.move (.c (.s (.int .i64 0))),none⟩]
def T69_0:=hT R69_0 K69_0 [] 5 [] [] [.cc (.s (.int .i64 0))]
def R69_1:List AOper:=[
 ⟨some 6,.move (.t 0),none⟩,
 ⟨some 7,.lenS .s (.t 6),none⟩,
 ⟨some 8,.move (.c (.s (.int .i64 0))),none⟩]
def T69_1:=hT R69_1 [6] [7,8] 9 [] [(7,(.op (.lenS .s (.t 0)) [(.t 0)])),(8,(.c (.s (.int .i64 0))))] [.tt 0,.sub 0 [] [],.cc (.s (.int .i64 0))]
def R69_2:List AOper:=[
 ⟨some 9,.bin .lss (.t 8) (.t 7),none⟩]
def T69_2:=hT R69_2 [] [9] 10 [] [(9,(.op (.bin .lss (.t 0) (.t 1)) [(.t 8),(.t 7)]))] [.sub 0 [] []]
def R69_3:List AOper:=[
 ⟨some 10,.move (.t 8),none⟩,
 ⟨some 5,.move (.t 10),none⟩]
def T69_3:=hT R69_3 [9,10] [5] 11 [] [(5,(.t 8))] [.tt 8,.tt 8]
def R69_4t1:List AOper:=[⟨some 16,.call (.t 11) [(.t 15)],none⟩]
def R69_4p0:List AOper:=[⟨some 11,.move (.t 1),none⟩,⟨some 12,.move (.t 0),none⟩,⟨some 13,.move (.t 5),none⟩,⟨some 14,.indexAddr 2 (.t 12) (.t 13),none⟩,⟨some 15,.load true 2 (.t 14),none⟩]
def R69_4:List AOper:=R69_4p0 ++ R69_4t1
def T69_4p0:=hT R69_4p0 [12,13,14] [11,15] 16 [] [(11,(.t 1)),(15,(.op (.load true 2 (.t 0)) [(.op (.indexAddr 2 (.t 0) (.t 1)) [(.t 0),(.t 5)])]))] [.tt 1,.tt 0,.tt 5,.sub 1 [0] [],.sub 1 [] []]
def X69_4:=hS R69_4 R69_4p0 R69_4t1 [12,13,14] [11,15] [11,12,13,14,15]
def X69_4t1:=hX R69_4t1 [11,12,13,14,15] [⟨some 16,.call (.t 11) [(.t 15)],none⟩]
def R69_5:List AOper:=[
 ⟨some 17,.move (.t 5),none⟩,
 ⟨some 4,.move (.t 17),none⟩]
def T69_5:=hT R69_5 [0,1,5,7,8,16,17] [4] 18 [] [(4,(.t 5))] [.tt 5,.tt 5]
def R69_6:List AOper:=[
 ⟨some 18,.bin .add (.t 8) (.c (.s (.int .i64 1))),none⟩,
 ⟨some 8,.move (.t 18),none⟩]
def T69_6:=hT R69_6 [5,16,18] [8] 19 [] [(8,(.op (.bin .add (.t 0) (.c (.s (.int .i64 1)))) [(.t 8),(.c (.s (.int .i64 1)))]))] [.sub 0 [] [],.sub 0 [] []]
def s_f69_l0_b:ACode:=
 (.seq (.regionE R69_2 [] [9])
 (.seq (.cond (.t 9)
 .skip
 (.exit 0))
 (.seq (.block 1
 (.seq (.regionE R69_3 [9,10] [5])
 (.seq (.region R69_4 [] [11,12,13,14,15])
 (.cond (.t 16)
 (.seq (.regionE R69_5 [0,1,5,7,8,16,17] [4])
 .ret)
 .skip))))
 (.regionE R69_6 [5,16,18] [8]))))
def s_f69_l0:ACode:=s_f69_l0_b
def s_f69_l0_ev:=hE s_f69_l0 s_f69_l0_b
def R69_7:List AOper:=[
 ⟨some 4,.move (.c (.s (.int .i64 (-1)))),none⟩]
def T69_7:=hT R69_7 [0,1,7,8,9] [4] 5 [] [(4,(.c (.s (.int .i64 (-1)))))] [.cc (.s (.int .i64 (-1)))]
def s_f69:ACFun:={ ntmps:=19,results:=[(.tmp 4)],body:=
 (.seq (.regionE R69_0 K69_0 [])
 (.seq (.seq (.regionE R69_1 [6] [7,8])
 (.block 0
 (.loop [] s_f69_l0)))
 (.seq (.regionE R69_7 [0,1,7,8,9] [4])
 .ret))) }
abbrev k_f70:Nat:=70
def K70_0:List Nat:=[1,2,3,4,5,6,7,8,9,10,11,12,16,17,18,19,20,21,22,23,24,25,26,27,28,29,30,31,32,33,34,35,36,37,38,39,40,41,42,43,44,45,46]
theorem s_f70_r0_kT:killV K70_0 (startV 47 [] 2)=[(13,und),(14,und),(15,und)]:=by kernel_rfl
def s_f70_r0_kA0:=hK K70_0 0
theorem s_f70_r0_kA1:K70_0.contains 1=true:=by kernel_rfl
def R70_0:List AOper:=[
 ⟨some 9,.load false 1 (.t 1),none⟩,
 ⟨some 10,.nilCheck (.t 9),none⟩,
 ⟨some 11,.fieldAddr 0 (.t 10),none⟩,
 ⟨some 12,.fieldAddr 0 (.t 11),none⟩,
 ⟨some 13,.load false 1 (.t 12),none⟩,
 ⟨some 14,.lenS .s (.t 13),none⟩,
 ⟨some 15,.move (.c (.s (.int .i64 0))),none⟩]
def T70_0:=hT R70_0 K70_0 [13,14,15] 16 [] [(13,(.op (.load false 1 (.t 0)) [(.op (.fieldAddr 0 (.t 0)) [(.op (.fieldAddr 0 (.t 0)) [(.op (.nilCheck (.t 0)) [(.op (.load false 1 (.t 0)) [(.t 1)])])])])])),(14,(.op (.lenS .s (.t 0)) [(.op (.load false 1 (.t 0)) [(.op (.fieldAddr 0 (.t 0)) [(.op (.fieldAddr 0 (.t 0)) [(.op (.nilCheck (.t 0)) [(.op (.load false 1 (.t 0)) [(.t 1)])])])])])])),(15,(.c (.s (.int .i64 0))))] [.sub 0 [0,0,0,0] [],.sub 0 [0,0,0] [],.sub 0 [0,0] [],.sub 0 [0] [],.sub 0 [] [],.sub 1 [] [],.cc (.s (.int .i64 0))]
def R70_1:List AOper:=[
 ⟨some 16,.bin .lss (.t 15) (.t 14),none⟩]
def T70_1:=hT R70_1 [] [16] 17 [] [(16,(.op (.bin .lss (.t 0) (.t 1)) [(.t 15),(.t 14)]))] [.sub 0 [] []]
def R70_2t3:List AOper:=[⟨none,.store 3 (.t 4) (.t 19),none⟩]
def R70_2p2:List AOper:=[⟨some 3,.move (.t 17),none⟩]
def R70_2t2:List AOper:=R70_2p2 ++ R70_2t3
def R70_2p1:List AOper:=[⟨some 4,.alloc [(.s (.string ⟨#[]⟩)),(.s (.slice none 0 0)),(.s (.slice none 0 0))],none⟩]
def R70_2t1:List AOper:=R70_2p1 ++ R70_2t2
def R70_2p0:List AOper:=[⟨some 17,.move (.t 15),none⟩,⟨some 18,.indexAddr 3 (.t 13) (.t 15),none⟩,⟨some 19,.load true 3 (.t 18),none⟩]
def R70_2:List AOper:=R70_2p0 ++ R70_2t1
def T70_2p0:=hT R70_2p0 [16,18] [17,19] 20 [] [(17,(.t 15)),(19,(.op (.load true 3 (.t 0)) [(.op (.indexAddr 3 (.t 0) (.t 1)) [(.t 13),(.t 15)])]))] [.tt 15,.sub 1 [0] [],.sub 1 [] []]
def X70_2:=hS R70_2 R70_2p0 R70_2t1 [16,18] [17,19] [16,17,18,19]
def X70_2t1:=hO R70_2t1 R70_2p1 R70_2t2 [] [16,17,18,19] [⟨some 4,.alloc [(.s (.string ⟨#[]⟩)),(.s (.slice none 0 0)),(.s (.slice none 0 0))],none⟩]
def T70_2p2:=hT R70_2p2 [17] [3] 4 [] [(3,(.t 17))] [.tt 17]
def X70_2t2:=hS R70_2t2 R70_2p2 R70_2t3 [17] [3] [16,17,18,19]
def X70_2t3:=hX R70_2t3 [16,17,18,19] [⟨none,.store 3 (.t 4) (.t 19),none⟩]
def R70_3:List AOper:=[
 ⟨some 20,.fieldAddr 2 (.t 4),none⟩,
 ⟨some 21,.load false 1 (.t 20),none⟩,
 ⟨some 22,.lenS .s (.t 21),none⟩,
 ⟨some 23,.move (.c (.s (.int .i64 0))),none⟩]
def T70_3:=hT R70_3 [4,20] [21,22,23] 24 [] [(21,(.op (.load false 1 (.t 0)) [(.op (.fieldAddr 2 (.t 0)) [(.t 4)])])),(22,(.op (.lenS .s (.t 0)) [(.op (.load false 1 (.t 0)) [(.op (.fieldAddr 2 (.t 0)) [(.t 4)])])])),(23,(.c (.s (.int .i64 0))))] [.sub 0 [0] [],.sub 0 [] [],.sub 1 [] [],.cc (.s (.int .i64 0))]
def R70_4:List AOper:=[
 ⟨some 24,.bin .lss (.t 23) (.t 22),none⟩]
def T70_4:=hT R70_4 [] [24] 25 [] [(24,(.op (.bin .lss (.t 0) (.t 1)) [(.t 23),(.t 22)]))] [.sub 0 [] []]
def R70_5t3:List AOper:=[⟨none,.store 2 (.t 6) (.t 27),none⟩]
def R70_5p2:List AOper:=[⟨some 5,.move (.t 25),none⟩]
def R70_5t2:List AOper:=R70_5p2 ++ R70_5t3
def R70_5p1:List AOper:=[⟨some 6,.alloc [(.s (.string ⟨#[]⟩)),(.s (.slice none 0 0))],none⟩]
def R70_5t1:List AOper:=R70_5p1 ++ R70_5t2
def R70_5p0:List AOper:=[⟨some 25,.move (.t 23),none⟩,⟨some 26,.indexAddr 2 (.t 21) (.t 23),none⟩,⟨some 27,.load true 2 (.t 26),none⟩]
def R70_5:List AOper:=R70_5p0 ++ R70_5t1
def T70_5p0:=hT R70_5p0 [24,26] [25,27] 28 [] [(25,(.t 23)),(27,(.op (.load true 2 (.t 0)) [(.op (.indexAddr 2 (.t 0) (.t 1)) [(.t 21),(.t 23)])]))] [.tt 23,.sub 1 [0] [],.sub 1 [] []]
def X70_5:=hS R70_5 R70_5p0 R70_5t1 [24,26] [25,27] [24,25,26,27]
def X70_5t1:=hO R70_5t1 R70_5p1 R70_5t2 [] [24,25,26,27] [⟨some 6,.alloc [(.s (.string ⟨#[]⟩)),(.s (.slice none 0 0))],none⟩]
def T70_5p2:=hT R70_5p2 [25] [5] 6 [] [(5,(.t 25))] [.tt 25]
def X70_5t2:=hS R70_5t2 R70_5p2 R70_5t3 [25] [5] [24,25,26,27]
def X70_5t3:=hX R70_5t3 [24,25,26,27] [⟨none,.store 2 (.t 6) (.t 27),none⟩]
def R70_6:List AOper:=[
 ⟨some 28,.fieldAddr 1 (.t 6),none⟩,
 ⟨some 29,.load false 1 (.t 28),none⟩,
 ⟨some 30,.lenS .s (.t 29),none⟩,
 ⟨some 31,.move (.c (.s (.int .i64 0))),none⟩]
def T70_6:=hT R70_6 [6,28] [29,30,31] 32 [] [(29,(.op (.load false 1 (.t 0)) [(.op (.fieldAddr 1 (.t 0)) [(.t 6)])])),(30,(.op (.lenS .s (.t 0)) [(.op (.load false 1 (.t 0)) [(.op (.fieldAddr 1 (.t 0)) [(.t 6)])])])),(31,(.c (.s (.int .i64 0))))] [.sub 0 [0] [],.sub 0 [] [],.sub 1 [] [],.cc (.s (.int .i64 0))]
def R70_7:List AOper:=[
 ⟨some 32,.bin .lss (.t 31) (.t 30),none⟩]
def T70_7:=hT R70_7 [] [32] 33 [] [(32,(.op (.bin .lss (.t 0) (.t 1)) [(.t 31),(.t 30)]))] [.sub 0 [] []]
def R70_8t3:List AOper:=[⟨none,.store 8 (.t 8) (.t 35),none⟩]
def R70_8p2:List AOper:=[⟨some 7,.move (.t 33),none⟩]
def R70_8t2:List AOper:=R70_8p2 ++ R70_8t3
def R70_8p1:List AOper:=[⟨some 8,.alloc [(.s (.int .u8 0)),(.s (.string ⟨#[]⟩)),(.s (.string ⟨#[]⟩)),(.s (.string ⟨#[]⟩)),(.s (.int .i64 0)),(.s (.string ⟨#[]⟩)),(.s (.slice none 0 0)),(.s (.slice none 0 0))],none⟩]
def R70_8t1:List AOper:=R70_8p1 ++ R70_8t2
def R70_8p0:List AOper:=[⟨some 33,.move (.t 31),none⟩,⟨some 34,.indexAddr 8 (.t 29) (.t 31),none⟩,⟨some 35,.load true 8 (.t 34),none⟩]
def R70_8:List AOper:=R70_8p0 ++ R70_8t1
def T70_8p0:=hT R70_8p0 [32,34] [33,35] 36 [] [(33,(.t 31)),(35,(.op (.load true 8 (.t 0)) [(.op (.indexAddr 8 (.t 0) (.t 1)) [(.t 29),(.t 31)])]))] [.tt 31,.sub 1 [0] [],.sub 1 [] []]
def X70_8:=hS R70_8 R70_8p0 R70_8t1 [32,34] [33,35] [32,33,34,35]
def X70_8t1:=hO R70_8t1 R70_8p1 R70_8t2 [] [32,33,34,35] [⟨some 8,.alloc [(.s (.int .u8 0)),(.s (.string ⟨#[]⟩)),(.s (.string ⟨#[]⟩)),(.s (.string ⟨#[]⟩)),(.s (.int .i64 0)),(.s (.string ⟨#[]⟩)),(.s (.slice none 0 0)),(.s (.slice none 0 0))],none⟩]
def T70_8p2:=hT R70_8p2 [33] [7] 8 [] [(7,(.t 33))] [.tt 33]
def X70_8t2:=hS R70_8t2 R70_8p2 R70_8t3 [33] [7] [32,33,34,35]
def X70_8t3:=hX R70_8t3 [32,33,34,35] [⟨none,.store 8 (.t 8) (.t 35),none⟩]
def R70_9t2:List AOper:=[⟨some 43,.un .not (.t 42),none⟩]
def R70_9p1:List AOper:=[⟨some 42,.call (.t 36) [(.t 40),(.t 41)],none⟩]
def R70_9t1:List AOper:=R70_9p1 ++ R70_9t2
def R70_9p0:List AOper:=[⟨some 36,.move (.t 0),none⟩,⟨some 37,.move (.t 3),none⟩,⟨some 38,.move (.t 5),none⟩,⟨some 39,.move (.t 7),none⟩,⟨some 40,.build [(.s (.int .i64 0)),(.s (.int .i64 0)),(.s (.int .i64 0))] [(0,1),(1,1),(2,1)] [(0,(.t 37)),(1,(.t 38)),(2,(.t 39))],none⟩,⟨some 41,.load true 8 (.t 8),none⟩]
def R70_9:List AOper:=R70_9p0 ++ R70_9t1
def T70_9p0:=hT R70_9p0 [7,8,37,38,39] [36,40,41] 42 [] [(36,(.t 0)),(40,(.op (.build [(.s (.int .i64 0)),(.s (.int .i64 0)),(.s (.int .i64 0))] [(0,1),(1,1),(2,1)] [(0,(.t 0)),(1,(.t 1)),(2,(.t 2))]) [(.t 3),(.t 5),(.t 7)])),(41,(.op (.load true 8 (.t 0)) [(.t 8)]))] [.tt 0,.tt 3,.tt 5,.tt 7,.sub 1 [] [],.sub 2 [] []]
def X70_9:=hS R70_9 R70_9p0 R70_9t1 [7,8,37,38,39] [36,40,41] [7,8,36,37,38,39,40,41,42]
def X70_9t1:=hO R70_9t1 R70_9p1 R70_9t2 [36,40,41] [7,8,36,37,38,39,40,41,42] [⟨some 42,.call (.t 36) [(.t 40),(.t 41)],none⟩]
def T70_9t2:=hT R70_9t2 [7,8,36,37,38,39,40,41,42] [43] 44 [] [(43,(.op (.un .not (.t 0)) [(.t 42)]))] [.sub 0 [] []]
def X70_9t2:=hL R70_9t2 [7,8,36,37,38,39,40,41,42] [43]
def R70_10:List AOper:=[
 ⟨some 44,.bin .add (.t 31) (.c (.s (.int .i64 1))),none⟩,
 ⟨some 31,.move (.t 44),none⟩]
def T70_10:=hT R70_10 [43,44] [31] 45 [] [(31,(.op (.bin .add (.t 0) (.c (.s (.int .i64 1)))) [(.t 31),(.c (.s (.int .i64 1)))]))] [.sub 0 [] [],.sub 0 [] []]
def s_f70_l0_b:ACode:=
 (.seq (.regionE R70_7 [] [32])
 (.seq (.cond (.t 32)
 .skip
 (.exit 4))
 (.seq (.block 5
 (.seq (.region R70_8 [] [32,33,34,35])
 (.seq (.region R70_9 [] [7,8,36,37,38,39,40,41,42])
 (.cond (.t 43)
 .ret
 .skip))))
 (.regionE R70_10 [43,44] [31]))))
def s_f70_l0:ACode:=s_f70_l0_b
def s_f70_l0_ev:=hE s_f70_l0 s_f70_l0_b
def R70_11:List AOper:=[
 ⟨some 45,.bin .add (.t 23) (.c (.s (.int .i64 1))),none⟩,
 ⟨some 23,.move (.t 45),none⟩]
def T70_11:=hT R70_11 [5,29,30,31,32,45] [23] 46 [] [(23,(.op (.bin .add (.t 0) (.c (.s (.int .i64 1)))) [(.t 23),(.c (.s (.int .i64 1)))]))] [.sub 0 [] [],.sub 0 [] []]
def s_f70_l1_b:ACode:=
 (.seq (.regionE R70_4 [] [24])
 (.seq (.cond (.t 24)
 .skip
 (.exit 2))
 (.seq (.block 3
 (.seq (.region R70_5 [] [24,25,26,27])
 (.seq (.regionE R70_6 [6,28] [29,30,31])
 (.block 4
 (.loop [] s_f70_l0)))))
 (.regionE R70_11 [5,29,30,31,32,45] [23]))))
def s_f70_l1:ACode:=s_f70_l1_b
def s_f70_l1_ev:=hE s_f70_l1 s_f70_l1_b
def R70_12:List AOper:=[
 ⟨some 46,.bin .add (.t 15) (.c (.s (.int .i64 1))),none⟩,
 ⟨some 15,.move (.t 46),none⟩]
def T70_12:=hT R70_12 [3,21,22,23,24,46] [15] 47 [] [(15,(.op (.bin .add (.t 0) (.c (.s (.int .i64 1)))) [(.t 15),(.c (.s (.int .i64 1)))]))] [.sub 0 [] [],.sub 0 [] []]
def s_f70_l2_b:ACode:=
 (.seq (.regionE R70_1 [] [16])
 (.seq (.cond (.t 16)
 .skip
 (.exit 0))
 (.seq (.block 1
 (.seq (.region R70_2 [] [16,17,18,19])
 (.seq (.regionE R70_3 [4,20] [21,22,23])
 (.block 2
 (.loop [] s_f70_l1)))))
 (.regionE R70_12 [3,21,22,23,24,46] [15]))))
def s_f70_l2:ACode:=s_f70_l2_b
def s_f70_l2_ev:=hE s_f70_l2 s_f70_l2_b
def s_f70:ACFun:={ ntmps:=47,results:=[],body:=
 (.seq (.regionE R70_0 K70_0 [13,14,15])
 (.block 0
 (.loop [] s_f70_l2))) }
def a_f11:=ai @X11_0 (ai @X11_0t1 (ai @A11_0_0 (ai @A11_0_1 (ai @A11_0_2 (ai @T11_1 (ai @T11_2 (ai @T11_3p0 (ai @X11_3 (ai @X11_3t1 (ai @T11_3p2 (ai @X11_3t2 (ai @X11_3t3 (ai @X11_3t4 (ai @T11_3t5 (ai @X11_3t5 (ai @T11_4 (ai @T11_5p0 (ai @X11_5 (ai @X11_5t1 (ai @T11_6 (ai @s_f11_l0_ev (ai @T11_7p0 (ai @X11_7 (@X11_7t1))))))))))))))))))))))))
def a_f12:=ai @A12_0p0_0 (ai @A12_0p0_1 (ai @A12_0p0_2 (ai @A12_0p0_4 (ai @A12_0p0_5 (ai @X12_0 (ai @X12_0t1 (ai @T12_0t2 (ai @X12_0t2 (ai @A12_0_0 (ai @A12_0_1 (ai @A12_0_2 (ai @A12_0_4 (ai @A12_0_5 (ai @T12_1p0 (ai @X12_1 (ai @X12_1t1 (ai @T12_1p2 (ai @X12_1t2 (ai @X12_1t3 (ai @T12_1t4 (ai @X12_1t4 (ai @X12_2 (ai @T12_2p1 (ai @X12_2t1 (ai @X12_2t2 (ai @T12_2p3 (ai @X12_2t3 (ai @X12_2t4 (ai @T12_2p5 (ai @X12_2t5 (ai @X12_2t6 (ai @T12_2p7 (ai @X12_2t7 (ai @X12_2t8 (ai @T12_2p9 (ai @X12_2t9 (ai @X12_2t10 (ai @T12_2p11 (ai @X12_2t11 (ai @X12_2t12 (ai @T12_2p13 (ai @X12_2t13 (ai @X12_2t14 (ai @T12_2p15 (ai @X12_2t15 (ai @X12_2t16 (ai @T12_2p17 (ai @X12_2t17 (ai @X12_2t18 (ai @T12_2p19 (ai @X12_2t19 (ai @X12_2t20 (ai @T12_2p21 (ai @X12_2t21 (ai @X12_2t22 (ai @T12_2p23 (ai @X12_2t23 (ai @X12_2t24 (ai @T12_2p25 (ai @X12_2t25 (ai @X12_2t26 (ai @T12_2p27 (ai @X12_2t27 (ai @X12_2t28 (ai @T12_2p29 (ai @X12_2t29 (ai @X12_2t30 (ai @T12_2p31 (ai @X12_2t31 (ai @X12_2t32 (ai @T12_2t33 (ai @X12_2t33 (ai @T12_3 (ai @T12_4p0 (ai @X12_4 (ai @X12_4t1 (ai @T12_4t2 (ai @X12_4t2 (ai @T12_5p0 (ai @X12_5 (ai @X12_5t1 (ai @T12_5p2 (ai @X12_5t2 (ai @X12_5t3 (ai @T12_5t4 (@X12_5t4))))))))))))))))))))))))))))))))))))))))))))))))))))))))))))))))))))))))))))))))))))))
def a_f55:=ai @X55_0 (ai @X55_0t1 (ai @T55_0t2 (ai @X55_0t2 (ai @A55_0_0 (ai @A55_0_1 (ai @A55_0_2 (ai @A55_0_3 (ai @A55_0_4 (ai @A55_0_5 (ai @T55_1p0 (ai @X55_1 (ai @X55_1t1 (ai @T55_1t2 (@X55_1t2))))))))))))))
def a_f56:=ai @X56_0 (ai @T56_0t1 (ai @X56_0t1 (ai @A56_0_0 (ai @A56_0_1 (ai @A56_0_2 (ai @A56_0_3 (ai @A56_0_4 (ai @T56_1p0 (ai @X56_1 (ai @X56_1t1 (ai @T56_1t2 (@X56_1t2))))))))))))
def a_f57:=ai @T57_0 (ai @s_f57_r0_kT (ai @s_f57_r0_kA0 (ai @s_f57_r0_kA1 (ai @T57_1p0 (ai @X57_1 (ai @X57_1t1 (ai @T57_1t2 (@X57_1t2))))))))
def a_f58:=ai @X58_0 (ai @T58_0t1 (ai @X58_0t1 (ai @A58_0_0 (ai @A58_0_1 (ai @A58_0_2 (ai @A58_0_3 (@T58_1)))))))
def a_f59:=ai @X59_0 (ai @X59_0t1 (ai @T59_0t2 (ai @X59_0t2 (ai @A59_0_0 (ai @A59_0_1 (ai @A59_0_2 (ai @A59_0_3 (ai @A59_0_4 (ai @A59_0_5 (ai @T59_1p0 (ai @X59_1 (ai @X59_1t1 (ai @X59_1t2 (ai @X59_1t3 (ai @X59_1t4 (ai @T59_1t5 (@X59_1t5)))))))))))))))))
def a_f60:=ai @X60_0 (ai @X60_0t1 (ai @T60_0t2 (ai @X60_0t2 (ai @A60_0_0 (ai @A60_0_1 (ai @A60_0_2 (ai @A60_0_3 (ai @A60_0_4 (ai @A60_0_5 (ai @T60_1p0 (ai @X60_1 (ai @X60_1t1 (ai @T60_1t2 (ai @X60_1t2 (@T60_2)))))))))))))))
def a_f61:=ai @T61_0 (ai @s_f61_r0_kT (ai @s_f61_r0_kA0 (ai @s_f61_r0_kA1 (@T61_1))))
def a_f62:=ai @T62_0 (ai @s_f62_r0_kT (ai @s_f62_r0_kA0 (ai @s_f62_r0_kA1 (ai @T62_1 (ai @T62_2 (ai @T62_3 (ai @T62_4p0 (ai @X62_4 (ai @X62_4t1 (ai @T62_5 (ai @T62_6 (ai @s_f62_l0_ev (@T62_7)))))))))))))
def a_f63:=ai @T63_0 (ai @s_f63_r0_kT (ai @s_f63_r0_kA0 (ai @s_f63_r0_kA1 (ai @T63_1p0 (ai @X63_1 (ai @X63_1t1 (ai @X63_1t2 (ai @T63_1t3 (@X63_1t3)))))))))
def a_f64:=ai @T64_0 (ai @s_f64_r0_kT (ai @s_f64_r0_kA0 (ai @s_f64_r0_kA1 (ai @T64_1 (ai @T64_2 (ai @T64_3 (ai @T64_4 (ai @T64_5 (ai @T64_6 (ai @s_f64_l0_ev (@T64_7)))))))))))
def a_f65:=ai @T65_0 (ai @s_f65_r0_kT (ai @s_f65_r0_kA0 (ai @s_f65_r0_kA1 (ai @T65_1 (ai @T65_2 (ai @T65_3 (ai @T65_4p0 (ai @X65_4 (ai @X65_4t1 (ai @T65_5 (ai @T65_6 (ai @s_f65_l0_ev (@T65_7)))))))))))))
def a_f66:=ai @X66_0 (ai @T66_0t1 (ai @X66_0t1 (ai @A66_0_0 (ai @A66_0_1 (ai @A66_0_2 (ai @A66_0_3 (@T66_1)))))))
def a_f67:=ai @X67_0 (ai @T67_0t1 (ai @X67_0t1 (ai @A67_0_0 (ai @A67_0_1 (ai @A67_0_2 (@T67_1))))))
def a_f68:=ai @T68_0 (ai @s_f68_r0_kT (ai @s_f68_r0_kA0 (ai @s_f68_r0_kA1 (ai @T68_1 (ai @T68_2 (ai @T68_3 (ai @T68_4p0 (ai @X68_4 (ai @X68_4t1 (ai @T68_5 (ai @T68_6 (ai @s_f68_l0_ev (@T68_7)))))))))))))
def a_f69:=ai @T69_0 (ai @s_f69_r0_kT (ai @s_f69_r0_kA0 (ai @s_f69_r0_kA1 (ai @T69_1 (ai @T69_2 (ai @T69_3 (ai @T69_4p0 (ai @X69_4 (ai @X69_4t1 (ai @T69_5 (ai @T69_6 (ai @s_f69_l0_ev (@T69_7)))))))))))))
def a_f70:=ai @T70_0 (ai @s_f70_r0_kT (ai @s_f70_r0_kA0 (ai @s_f70_r0_kA1 (ai @T70_1 (ai @T70_2p0 (ai @X70_2 (ai @X70_2t1 (ai @T70_2p2 (ai @X70_2t2 (ai @X70_2t3 (ai @T70_3 (ai @T70_4 (ai @T70_5p0 (ai @X70_5 (ai @X70_5t1 (ai @T70_5p2 (ai @X70_5t2 (ai @X70_5t3 (ai @T70_6 (ai @T70_7 (ai @T70_8p0 (ai @X70_8 (ai @X70_8t1 (ai @T70_8p2 (ai @X70_8t2 (ai @X70_8t3 (ai @T70_9p0 (ai @X70_9 (ai @X70_9t1 (ai @T70_9t2 (ai @X70_9t2 (ai @T70_10 (ai @s_f70_l0_ev (ai @T70_11 (ai @s_f70_l1_ev (ai @T70_12 (@s_f70_l2_ev)))))))))))))))))))))))))))))))))))))
theorem NA3_55:compK Try.prog PX0 55=some (false,s_f55.ntmps,s_f55.results,s_f55.body.bare):=by kernel_rfl
theorem NA3_56:compK Try.prog PX0 56=some (false,s_f56.ntmps,s_f56.results,s_f56.body.bare):=by kernel_rfl
theorem NA3_57:compK Try.prog PX0 57=some (false,s_f57.ntmps,s_f57.results,s_f57.body.bare):=by kernel_rfl
theorem NA3_58:compK Try.prog PX0 58=some (false,s_f58.ntmps,s_f58.results,s_f58.body.bare):=by kernel_rfl
theorem NA3_59:compK Try.prog PX0 59=some (false,s_f59.ntmps,s_f59.results,s_f59.body.bare):=by kernel_rfl
theorem NA3_60:compK Try.prog PX0 60=some (false,s_f60.ntmps,s_f60.results,s_f60.body.bare):=by kernel_rfl
theorem NA3_61:compK Try.prog PX0 61=some (false,s_f61.ntmps,s_f61.results,s_f61.body.bare):=by kernel_rfl
theorem NA3_62:compK Try.prog PX0 62=some (false,s_f62.ntmps,s_f62.results,s_f62.body.bare):=by kernel_rfl
theorem NA3_63:compK Try.prog PX0 63=some (false,s_f63.ntmps,s_f63.results,s_f63.body.bare):=by kernel_rfl
theorem NA3_64:compK Try.prog PX0 64=some (false,s_f64.ntmps,s_f64.results,s_f64.body.bare):=by kernel_rfl
theorem NA3_65:compK Try.prog PX0 65=some (false,s_f65.ntmps,s_f65.results,s_f65.body.bare):=by kernel_rfl
theorem NA3_66:compK Try.prog PX0 66=some (false,s_f66.ntmps,s_f66.results,s_f66.body.bare):=by kernel_rfl
theorem NA3_67:compK Try.prog PX0 67=some (false,s_f67.ntmps,s_f67.results,s_f67.body.bare):=by kernel_rfl
theorem NA3_68:compK Try.prog PX0 68=some (false,s_f68.ntmps,s_f68.results,s_f68.body.bare):=by kernel_rfl
theorem NA3_69:compK Try.prog PX0 69=some (false,s_f69.ntmps,s_f69.results,s_f69.body.bare):=by kernel_rfl
theorem NA3_70:compK Try.prog PX0 70=some (false,s_f70.ntmps,s_f70.results,s_f70.body.bare):=by kernel_rfl
theorem NA3_11:compK Try.prog PX0 11=some (false,s_f11.ntmps,s_f11.results,s_f11.body.bare):=by kernel_rfl
theorem NA3_12:compK Try.prog PX0 12=some (false,s_f12.ntmps,s_f12.results,s_f12.body.bare):=by kernel_rfl
end Go.Proofs.YtamlbkalopefgaaR
set_option maxRecDepth 100000
namespace Go.Proofs.YtamlbkalopefgaaR
open Go.AM
def idxP {α:Type} (p:α→Bool) (l:List α):Int:=match l.findIdx? p with | some i=>(i:Int) | none=>-1
theorem idxP_none {α:Type} {p:α→Bool} {l:List α} (d:α) (h:∀ i,i < l.length→p (l.getD i d)=false):idxP p l=-1:=by
 have:l.findIdx? p=none:=by
  rw [List.findIdx?_eq_none_iff]
  intro x hx
  obtain ⟨i,hi⟩:=List.mem_iff_getElem?.1 hx
  have:=h i (List.getElem?_eq_some_iff.1 hi).1
  rwa [getD_some hi] at this
 rw [idxP,this]
theorem idxP_some {α:Type} {p:α→Bool} {l:List α} (d:α) {i:Nat} (hi:i < l.length) (h1:p (l.getD i d)=true) (h2:∀ j,j < i→p (l.getD j d)=false):idxP p l=(i:Int):=by
 have:l.findIdx? p=some i:=by
  rw [List.findIdx?_eq_some_iff_getElem]
  refine ⟨hi,?_,fun j hj=>?_⟩
  ·have:=some_getD hi d
   rw [List.getElem?_eq_getElem hi] at this
   rw [Option.some.inj this];exact h1
  ·have hjl:j < l.length:=by omega
   have:=some_getD hjl d
   rw [List.getElem?_eq_getElem hjl] at this
   rw [Option.some.inj this,h2 j hj];simp
 rw [idxP,this]
theorem idxP_any {α:Type} (p:α→Bool) (l:List α):decide (idxP p l ≥ 0)=l.any p:=by
 unfold idxP
 cases h:l.findIdx? p with
 | none=>
   rw [List.findIdx?_eq_none_iff] at h
   symm
   rw [show decide ((-1:Int) ≥ 0)=false from rfl,List.any_eq_false]
   intro x hx
   rw [h x hx];simp
 | some i=>
   rw [List.findIdx?_eq_some_iff_getElem] at h
   obtain ⟨h1,h2,_⟩:=h
   have e1:l.any p=true:=List.any_eq_true.2 ⟨_,List.getElem_mem h1,h2⟩
   rw [e1]
   simp
section
variable {CT:Nat→Option CFun}
theorem ends_fun (hT:CT k_f51=some (.code s_f51)) (base:Nat) (H:Heap) (o:Int):callW CT (.fn k_f51 [] []) [.s (.int .u8 o)] base H=some (.s (.bool (o == 12 || o == 13 || o == 14)),H):=by
 refine callW_fn (c:=s_f51) hT (by simp [s_f51]) ?_
 simp only [s_f51,a_f51,aa,bl,i64,reduceIte,reduceCtorEq,Nat.reduceEqDiff,Nat.reduceLT,Nat.reduceLeDiff,Nat.reduceBEq,Nat.reduceAdd,fillA,splice,Nat.reduceMul,amY,op_eqP]
theorem calls_fun (hT:CT k_f46=some (.code s_f46)) (base:Nat) (H:Heap) (o:Int):callW CT (.fn k_f46 [] []) [.s (.int .u8 o)] base H=some (.s (.bool (o == 10 || o == 11)),H):=by
 refine callW_fn (c:=s_f46) hT (by simp [s_f46]) ?_
 simp only [s_f46,a_f46,aa,bl,i64,reduceIte,reduceCtorEq,Nat.reduceEqDiff,Nat.reduceLT,Nat.reduceLeDiff,Nat.reduceBEq,Nat.reduceAdd,fillA,splice,Nat.reduceMul,amY,op_eqP]
theorem idxS_fun (hT:CT k_f62=some (.code s_f62)) (base:Nat) (A:Heap) {v f:V} {l:List ByteArray} {p:ByteArray→Bool} (hv:Rd A v (l.map Sb)) (hw:Wide1 v) (hp:∀ x,x∈l→∀ D,Ext A D→∃ D',callW CT f [Sb x] base D=some (.s (.bool (p x)),D')∧Ext D D') (hl:l.length < 2 ^ 40):
 ∃ H',callW CT (.fn k_f62 [] []) [v,f] base A=some (Iz (idxP p l),H')∧Ext A H':=by
 have step:∀ i C,i < l.length→Ext A C→∃ C',(p (l.getD i ⟨#[]⟩)=false→itW (evC (callW CT) itW base s_f62_l0) [] A.length (frOf 19 [(0,v),(1,f),(7,Iz l.length),(8,Iz i)]) C=itW (evC (callW CT) itW base s_f62_l0) [] A.length (frOf 19 [(0,v),(1,f),(7,Iz l.length),(8,Iz (i+1:Nat))]) (trim A.length (frOf 19 [(0,v),(1,f),(7,Iz l.length),(8,Iz (i+1:Nat))]) C'))∧(p (l.getD i ⟨#[]⟩)=true→itW (evC (callW CT) itW base s_f62_l0) [] A.length (frOf 19 [(0,v),(1,f),(7,Iz l.length),(8,Iz i)]) C=some (.ret,frOf 19 [(4,Iz i)],trim A.length (frOf 19 [(4,Iz i)]) C'))∧Ext A C':=by
  intro i C hi hE
  have hlt':((i:Int) < (l.length:Int)):=by omega
  have hwk:=w64 (n:=i) (by omega)
  obtain ⟨a,a1,a2⟩:=Sb_at (hv.ext hE) hw hi
  obtain ⟨C',c1,c2⟩:=hp _ (List.mem_of_getElem? (some_getD hi ⟨#[]⟩)) C hE
  simp only [Sb] at c1
  refine ⟨C',fun hp=>?_,fun hp=>?_,hE.trans c2⟩
  ·rw [hp] at c1
   rw [itW_step]
   simp only [Iz,a_f62,s_f62_l0_b,aa,bl,i64,reduceIte,reduceCtorEq,Nat.reduceEqDiff,Nat.reduceLT,Nat.reduceLeDiff,Nat.reduceBEq,Nat.reduceAdd,fillA,splice,Nat.reduceMul,amY,op_eqP,hlt',a1,a2,c1,hwk]
  ·rw [hp] at c1
   rw [itW_step]
   simp only [Iz,a_f62,s_f62_l0_b,aa,bl,i64,reduceIte,reduceCtorEq,Nat.reduceEqDiff,Nat.reduceLT,Nat.reduceLeDiff,Nat.reduceBEq,Nat.reduceAdd,fillA,splice,Nat.reduceMul,amY,op_eqP,hlt',a1,a2,c1,hwk]
 have hlen:=Sb_len hv
 rcases it_findR l.length (fun i=>p (l.getD i ⟨#[]⟩)) (fun C=>Ext A C) (fun i C=>itW (evC (callW CT) itW base s_f62_l0) [] A.length (frOf 19 [(0,v),(1,f),(7,Iz l.length),(8,Iz i)]) C) (fun i C hi hp hE=>by obtain ⟨C',q1,_,q3⟩:=step i C hi hE;exact ⟨_,q1 hp,q3.trim (Nat.le_refl _) _⟩) A (Ext.refl A) with ⟨h1,C,h2,h3⟩ | ⟨i,C,hi,h1,h2,h3,h4⟩
 ·refine ⟨trim A.length (frOf 19 [(0,v),(1,f),(7,Iz l.length),(8,Iz l.length),(9,bl false)]) C,callW_fn (c:=s_f62) hT (by simp [s_f62]) ?_,h3.trim (Nat.le_refl _) _⟩
  rw [idxP_none ⟨#[]⟩ h1]
  have hend:itW (evC (callW CT) itW base s_f62_l0) [] A.length (frOf 19 [(0,v),(1,f),(7,Iz l.length),(8,Iz l.length)]) C=some (.ext 0,frOf 19 [(0,v),(1,f),(7,Iz l.length),(8,Iz l.length),(9,bl false)],trim A.length (frOf 19 [(0,v),(1,f),(7,Iz l.length),(8,Iz l.length),(9,bl false)]) C):=by
   rw [itW_step]
   simp only [Iz,bl,a_f62,s_f62_l0_b,aa,bl,i64,reduceIte,reduceCtorEq,Nat.reduceEqDiff,Nat.reduceLT,Nat.reduceLeDiff,Nat.reduceBEq,Nat.reduceAdd,fillA,splice,Nat.reduceMul,amY,op_eqP,Int.lt_irrefl]
  have h4:=h2.trans hend
  simp only [Iz,bl,cast0] at h4
  simp only [Iz,bl,s_f62,a_f62,s_f62_l0_b,aa,bl,i64,reduceIte,reduceCtorEq,Nat.reduceEqDiff,Nat.reduceLT,Nat.reduceLeDiff,Nat.reduceBEq,Nat.reduceAdd,fillA,splice,Nat.reduceMul,amY,op_eqP,hlen,h4]
 ·obtain ⟨C',_,q2,q3⟩:=step i C hi h4
  refine ⟨trim A.length (frOf 19 [(4,Iz i)]) C',callW_fn (c:=s_f62) hT (by simp [s_f62]) ?_,q3.trim (Nat.le_refl _) _⟩
  rw [idxP_some ⟨#[]⟩ hi h1 h2]
  have h5:=h3.trans (q2 h1)
  simp only [Iz,bl,cast0] at h5
  simp only [Iz,bl,s_f62,a_f62,s_f62_l0_b,aa,bl,i64,reduceIte,reduceCtorEq,Nat.reduceEqDiff,Nat.reduceLT,Nat.reduceLeDiff,Nat.reduceBEq,Nat.reduceAdd,fillA,splice,Nat.reduceMul,amY,op_eqP,hlen,h5]
theorem idxF_fun (hT:CT k_f65=some (.code s_f65)) (base:Nat) (A:Heap) {v f:V} {l:List FunD} {p:FunD→Bool} (hv:RdL 3 RdFun A v l) (hp:∀ (i:Nat) (x:FunD) (r:List V),l[i]?=some x→RdFun A r x→∀ D,Ext A D→∃ D',callW CT f [.agg r] base D=some (.s (.bool (p x)),D')∧Ext D D') (hl:l.length < 2 ^ 40):
 ∃ H',callW CT (.fn k_f65 [] []) [v,f] base A=some (Iz (idxP p l),H')∧Ext A H':=by
 have step:∀ i C,i < l.length→Ext A C→∃ C',(p (l.getD i fun0)=false→itW (evC (callW CT) itW base s_f65_l0) [] A.length (frOf 19 [(0,v),(1,f),(7,Iz l.length),(8,Iz i)]) C=itW (evC (callW CT) itW base s_f65_l0) [] A.length (frOf 19 [(0,v),(1,f),(7,Iz l.length),(8,Iz (i+1:Nat))]) (trim A.length (frOf 19 [(0,v),(1,f),(7,Iz l.length),(8,Iz (i+1:Nat))]) C'))∧(p (l.getD i fun0)=true→itW (evC (callW CT) itW base s_f65_l0) [] A.length (frOf 19 [(0,v),(1,f),(7,Iz l.length),(8,Iz i)]) C=some (.ret,frOf 19 [(4,Iz i)],trim A.length (frOf 19 [(4,Iz i)]) C'))∧Ext A C':=by
  intro i C hi hE
  have hlt':((i:Int) < (l.length:Int)):=by omega
  have hwk:=w64 (n:=i) (by omega)
  obtain ⟨a,r,a1,hr,rd,_⟩:=hv.at2 (some_getD hi fun0)
  have a2:=rd C hE
  obtain ⟨C',c1,c2⟩:=hp i _ r (some_getD hi fun0) hr C hE
  refine ⟨C',fun hp=>?_,fun hp=>?_,hE.trans c2⟩
  ·rw [hp] at c1
   rw [itW_step]
   simp only [Iz,a_f65,s_f65_l0_b,aa,bl,i64,reduceIte,reduceCtorEq,Nat.reduceEqDiff,Nat.reduceLT,Nat.reduceLeDiff,Nat.reduceBEq,Nat.reduceAdd,fillA,splice,Nat.reduceMul,amY,op_eqP,hlt',a1,a2,c1,hwk]
  ·rw [hp] at c1
   rw [itW_step]
   simp only [Iz,a_f65,s_f65_l0_b,aa,bl,i64,reduceIte,reduceCtorEq,Nat.reduceEqDiff,Nat.reduceLT,Nat.reduceLeDiff,Nat.reduceBEq,Nat.reduceAdd,fillA,splice,Nat.reduceMul,amY,op_eqP,hlt',a1,a2,c1,hwk]
 have hlen:=hv.len
 rcases it_findR l.length (fun i=>p (l.getD i fun0)) (fun C=>Ext A C) (fun i C=>itW (evC (callW CT) itW base s_f65_l0) [] A.length (frOf 19 [(0,v),(1,f),(7,Iz l.length),(8,Iz i)]) C) (fun i C hi hp hE=>by obtain ⟨C',q1,_,q3⟩:=step i C hi hE;exact ⟨_,q1 hp,q3.trim (Nat.le_refl _) _⟩) A (Ext.refl A) with ⟨h1,C,h2,h3⟩ | ⟨i,C,hi,h1,h2,h3,h4⟩
 ·refine ⟨trim A.length (frOf 19 [(0,v),(1,f),(7,Iz l.length),(8,Iz l.length),(9,bl false)]) C,callW_fn (c:=s_f65) hT (by simp [s_f65]) ?_,h3.trim (Nat.le_refl _) _⟩
  rw [idxP_none fun0 h1]
  have hend:itW (evC (callW CT) itW base s_f65_l0) [] A.length (frOf 19 [(0,v),(1,f),(7,Iz l.length),(8,Iz l.length)]) C=some (.ext 0,frOf 19 [(0,v),(1,f),(7,Iz l.length),(8,Iz l.length),(9,bl false)],trim A.length (frOf 19 [(0,v),(1,f),(7,Iz l.length),(8,Iz l.length),(9,bl false)]) C):=by
   rw [itW_step]
   simp only [Iz,bl,a_f65,s_f65_l0_b,aa,bl,i64,reduceIte,reduceCtorEq,Nat.reduceEqDiff,Nat.reduceLT,Nat.reduceLeDiff,Nat.reduceBEq,Nat.reduceAdd,fillA,splice,Nat.reduceMul,amY,op_eqP,Int.lt_irrefl]
  have h4:=h2.trans hend
  simp only [Iz,bl,cast0] at h4
  simp only [Iz,bl,s_f65,a_f65,s_f65_l0_b,aa,bl,i64,reduceIte,reduceCtorEq,Nat.reduceEqDiff,Nat.reduceLT,Nat.reduceLeDiff,Nat.reduceBEq,Nat.reduceAdd,fillA,splice,Nat.reduceMul,amY,op_eqP,hlen,h4]
 ·obtain ⟨C',_,q2,q3⟩:=step i C hi h4
  refine ⟨trim A.length (frOf 19 [(4,Iz i)]) C',callW_fn (c:=s_f65) hT (by simp [s_f65]) ?_,q3.trim (Nat.le_refl _) _⟩
  rw [idxP_some fun0 hi h1 h2]
  have h5:=h3.trans (q2 h1)
  simp only [Iz,bl,cast0] at h5
  simp only [Iz,bl,s_f65,a_f65,s_f65_l0_b,aa,bl,i64,reduceIte,reduceCtorEq,Nat.reduceEqDiff,Nat.reduceLT,Nat.reduceLeDiff,Nat.reduceBEq,Nat.reduceAdd,fillA,splice,Nat.reduceMul,amY,op_eqP,hlen,h5]
theorem idxB_fun (hT:CT k_f69=some (.code s_f69)) (base:Nat) (A:Heap) {v f:V} {l:List BlkD} {p:BlkD→Bool} (hv:RdL 2 RdBlk A v l) (hp:∀ (i:Nat) (x:BlkD) (r:List V),l[i]?=some x→RdBlk A r x→∀ D,Ext A D→∃ D',callW CT f [.agg r] base D=some (.s (.bool (p x)),D')∧Ext D D') (hl:l.length < 2 ^ 40):
 ∃ H',callW CT (.fn k_f69 [] []) [v,f] base A=some (Iz (idxP p l),H')∧Ext A H':=by
 have step:∀ i C,i < l.length→Ext A C→∃ C',(p (l.getD i blk0)=false→itW (evC (callW CT) itW base s_f69_l0) [] A.length (frOf 19 [(0,v),(1,f),(7,Iz l.length),(8,Iz i)]) C=itW (evC (callW CT) itW base s_f69_l0) [] A.length (frOf 19 [(0,v),(1,f),(7,Iz l.length),(8,Iz (i+1:Nat))]) (trim A.length (frOf 19 [(0,v),(1,f),(7,Iz l.length),(8,Iz (i+1:Nat))]) C'))∧(p (l.getD i blk0)=true→itW (evC (callW CT) itW base s_f69_l0) [] A.length (frOf 19 [(0,v),(1,f),(7,Iz l.length),(8,Iz i)]) C=some (.ret,frOf 19 [(4,Iz i)],trim A.length (frOf 19 [(4,Iz i)]) C'))∧Ext A C':=by
  intro i C hi hE
  have hlt':((i:Int) < (l.length:Int)):=by omega
  have hwk:=w64 (n:=i) (by omega)
  obtain ⟨a,r,a1,hr,rd,_⟩:=hv.at2 (some_getD hi blk0)
  have a2:=rd C hE
  obtain ⟨C',c1,c2⟩:=hp i _ r (some_getD hi blk0) hr C hE
  refine ⟨C',fun hp=>?_,fun hp=>?_,hE.trans c2⟩
  ·rw [hp] at c1
   rw [itW_step]
   simp only [Iz,a_f69,s_f69_l0_b,aa,bl,i64,reduceIte,reduceCtorEq,Nat.reduceEqDiff,Nat.reduceLT,Nat.reduceLeDiff,Nat.reduceBEq,Nat.reduceAdd,fillA,splice,Nat.reduceMul,amY,op_eqP,hlt',a1,a2,c1,hwk]
  ·rw [hp] at c1
   rw [itW_step]
   simp only [Iz,a_f69,s_f69_l0_b,aa,bl,i64,reduceIte,reduceCtorEq,Nat.reduceEqDiff,Nat.reduceLT,Nat.reduceLeDiff,Nat.reduceBEq,Nat.reduceAdd,fillA,splice,Nat.reduceMul,amY,op_eqP,hlt',a1,a2,c1,hwk]
 have hlen:=hv.len
 rcases it_findR l.length (fun i=>p (l.getD i blk0)) (fun C=>Ext A C) (fun i C=>itW (evC (callW CT) itW base s_f69_l0) [] A.length (frOf 19 [(0,v),(1,f),(7,Iz l.length),(8,Iz i)]) C) (fun i C hi hp hE=>by obtain ⟨C',q1,_,q3⟩:=step i C hi hE;exact ⟨_,q1 hp,q3.trim (Nat.le_refl _) _⟩) A (Ext.refl A) with ⟨h1,C,h2,h3⟩ | ⟨i,C,hi,h1,h2,h3,h4⟩
 ·refine ⟨trim A.length (frOf 19 [(0,v),(1,f),(7,Iz l.length),(8,Iz l.length),(9,bl false)]) C,callW_fn (c:=s_f69) hT (by simp [s_f69]) ?_,h3.trim (Nat.le_refl _) _⟩
  rw [idxP_none blk0 h1]
  have hend:itW (evC (callW CT) itW base s_f69_l0) [] A.length (frOf 19 [(0,v),(1,f),(7,Iz l.length),(8,Iz l.length)]) C=some (.ext 0,frOf 19 [(0,v),(1,f),(7,Iz l.length),(8,Iz l.length),(9,bl false)],trim A.length (frOf 19 [(0,v),(1,f),(7,Iz l.length),(8,Iz l.length),(9,bl false)]) C):=by
   rw [itW_step]
   simp only [Iz,bl,a_f69,s_f69_l0_b,aa,bl,i64,reduceIte,reduceCtorEq,Nat.reduceEqDiff,Nat.reduceLT,Nat.reduceLeDiff,Nat.reduceBEq,Nat.reduceAdd,fillA,splice,Nat.reduceMul,amY,op_eqP,Int.lt_irrefl]
  have h4:=h2.trans hend
  simp only [Iz,bl,cast0] at h4
  simp only [Iz,bl,s_f69,a_f69,s_f69_l0_b,aa,bl,i64,reduceIte,reduceCtorEq,Nat.reduceEqDiff,Nat.reduceLT,Nat.reduceLeDiff,Nat.reduceBEq,Nat.reduceAdd,fillA,splice,Nat.reduceMul,amY,op_eqP,hlen,h4]
 ·obtain ⟨C',_,q2,q3⟩:=step i C hi h4
  refine ⟨trim A.length (frOf 19 [(4,Iz i)]) C',callW_fn (c:=s_f69) hT (by simp [s_f69]) ?_,q3.trim (Nat.le_refl _) _⟩
  rw [idxP_some blk0 hi h1 h2]
  have h5:=h3.trans (q2 h1)
  simp only [Iz,bl,cast0] at h5
  simp only [Iz,bl,s_f69,a_f69,s_f69_l0_b,aa,bl,i64,reduceIte,reduceCtorEq,Nat.reduceEqDiff,Nat.reduceLT,Nat.reduceLeDiff,Nat.reduceBEq,Nat.reduceAdd,fillA,splice,Nat.reduceMul,amY,op_eqP,hlen,h5]
theorem idxI_fun (hT:CT k_f68=some (.code s_f68)) (base:Nat) (A:Heap) {v f:V} {l:List InsD} {p:InsD→Bool} (hv:RdL 8 RdIns A v l) (hp:∀ (i:Nat) (x:InsD) (r:List V),l[i]?=some x→RdIns A r x→∀ D,Ext A D→∃ D',callW CT f [.agg r] base D=some (.s (.bool (p x)),D')∧Ext D D') (hl:l.length < 2 ^ 40):
 ∃ H',callW CT (.fn k_f68 [] []) [v,f] base A=some (Iz (idxP p l),H')∧Ext A H':=by
 have step:∀ i C,i < l.length→Ext A C→∃ C',(p (l.getD i ins0)=false→itW (evC (callW CT) itW base s_f68_l0) [] A.length (frOf 19 [(0,v),(1,f),(7,Iz l.length),(8,Iz i)]) C=itW (evC (callW CT) itW base s_f68_l0) [] A.length (frOf 19 [(0,v),(1,f),(7,Iz l.length),(8,Iz (i+1:Nat))]) (trim A.length (frOf 19 [(0,v),(1,f),(7,Iz l.length),(8,Iz (i+1:Nat))]) C'))∧(p (l.getD i ins0)=true→itW (evC (callW CT) itW base s_f68_l0) [] A.length (frOf 19 [(0,v),(1,f),(7,Iz l.length),(8,Iz i)]) C=some (.ret,frOf 19 [(4,Iz i)],trim A.length (frOf 19 [(4,Iz i)]) C'))∧Ext A C':=by
  intro i C hi hE
  have hlt':((i:Int) < (l.length:Int)):=by omega
  have hwk:=w64 (n:=i) (by omega)
  obtain ⟨a,r,a1,hr,rd,_⟩:=hv.at2 (some_getD hi ins0)
  have a2:=rd C hE
  obtain ⟨C',c1,c2⟩:=hp i _ r (some_getD hi ins0) hr C hE
  refine ⟨C',fun hp=>?_,fun hp=>?_,hE.trans c2⟩
  ·rw [hp] at c1
   rw [itW_step]
   simp only [Iz,a_f68,s_f68_l0_b,aa,bl,i64,reduceIte,reduceCtorEq,Nat.reduceEqDiff,Nat.reduceLT,Nat.reduceLeDiff,Nat.reduceBEq,Nat.reduceAdd,fillA,splice,Nat.reduceMul,amY,op_eqP,hlt',a1,a2,c1,hwk]
  ·rw [hp] at c1
   rw [itW_step]
   simp only [Iz,a_f68,s_f68_l0_b,aa,bl,i64,reduceIte,reduceCtorEq,Nat.reduceEqDiff,Nat.reduceLT,Nat.reduceLeDiff,Nat.reduceBEq,Nat.reduceAdd,fillA,splice,Nat.reduceMul,amY,op_eqP,hlt',a1,a2,c1,hwk]
 have hlen:=hv.len
 rcases it_findR l.length (fun i=>p (l.getD i ins0)) (fun C=>Ext A C) (fun i C=>itW (evC (callW CT) itW base s_f68_l0) [] A.length (frOf 19 [(0,v),(1,f),(7,Iz l.length),(8,Iz i)]) C) (fun i C hi hp hE=>by obtain ⟨C',q1,_,q3⟩:=step i C hi hE;exact ⟨_,q1 hp,q3.trim (Nat.le_refl _) _⟩) A (Ext.refl A) with ⟨h1,C,h2,h3⟩ | ⟨i,C,hi,h1,h2,h3,h4⟩
 ·refine ⟨trim A.length (frOf 19 [(0,v),(1,f),(7,Iz l.length),(8,Iz l.length),(9,bl false)]) C,callW_fn (c:=s_f68) hT (by simp [s_f68]) ?_,h3.trim (Nat.le_refl _) _⟩
  rw [idxP_none ins0 h1]
  have hend:itW (evC (callW CT) itW base s_f68_l0) [] A.length (frOf 19 [(0,v),(1,f),(7,Iz l.length),(8,Iz l.length)]) C=some (.ext 0,frOf 19 [(0,v),(1,f),(7,Iz l.length),(8,Iz l.length),(9,bl false)],trim A.length (frOf 19 [(0,v),(1,f),(7,Iz l.length),(8,Iz l.length),(9,bl false)]) C):=by
   rw [itW_step]
   simp only [Iz,bl,a_f68,s_f68_l0_b,aa,bl,i64,reduceIte,reduceCtorEq,Nat.reduceEqDiff,Nat.reduceLT,Nat.reduceLeDiff,Nat.reduceBEq,Nat.reduceAdd,fillA,splice,Nat.reduceMul,amY,op_eqP,Int.lt_irrefl]
  have h4:=h2.trans hend
  simp only [Iz,bl,cast0] at h4
  simp only [Iz,bl,s_f68,a_f68,s_f68_l0_b,aa,bl,i64,reduceIte,reduceCtorEq,Nat.reduceEqDiff,Nat.reduceLT,Nat.reduceLeDiff,Nat.reduceBEq,Nat.reduceAdd,fillA,splice,Nat.reduceMul,amY,op_eqP,hlen,h4]
 ·obtain ⟨C',_,q2,q3⟩:=step i C hi h4
  refine ⟨trim A.length (frOf 19 [(4,Iz i)]) C',callW_fn (c:=s_f68) hT (by simp [s_f68]) ?_,q3.trim (Nat.le_refl _) _⟩
  rw [idxP_some ins0 hi h1 h2]
  have h5:=h3.trans (q2 h1)
  simp only [Iz,bl,cast0] at h5
  simp only [Iz,bl,s_f68,a_f68,s_f68_l0_b,aa,bl,i64,reduceIte,reduceCtorEq,Nat.reduceEqDiff,Nat.reduceLT,Nat.reduceLeDiff,Nat.reduceBEq,Nat.reduceAdd,fillA,splice,Nat.reduceMul,amY,op_eqP,hlen,h5]
theorem conS_fun (hT:CT k_f39=some (.code s_f39)) (hI:CT k_f62=some (.code s_f62)) (base:Nat) (A:Heap) {v f:V} {l:List ByteArray} {p:ByteArray→Bool} (hv:Rd A v (l.map Sb)) (hw:Wide1 v) (hp:∀ x,x∈l→∀ D,Ext A D→∃ D',callW CT f [Sb x] base D=some (.s (.bool (p x)),D')∧Ext D D') (hl:l.length < 2 ^ 40):
 ∃ H',callW CT (.fn k_f39 [] []) [v,f] base A=some (.s (.bool (l.any p)),H')∧Ext A H':=by
 obtain ⟨H',h1,h2⟩:=idxS_fun hI base A hv hw hp hl
 refine ⟨H',callW_fn (c:=s_f39) hT (by simp [s_f39]) ?_,h2⟩
 rw [← idxP_any]
 simp only [Iz] at h1
 simp only [s_f39,a_f39,aa,bl,i64,reduceIte,reduceCtorEq,Nat.reduceEqDiff,Nat.reduceLT,Nat.reduceLeDiff,Nat.reduceBEq,Nat.reduceAdd,fillA,splice,Nat.reduceMul,amY,op_eqP,h1]
theorem conB_fun (hT:CT k_f57=some (.code s_f57)) (hI:CT k_f69=some (.code s_f69)) (base:Nat) (A:Heap) {v f:V} {l:List BlkD} {p:BlkD→Bool} (hv:RdL 2 RdBlk A v l) (hp:∀ (i:Nat) (x:BlkD) (r:List V),l[i]?=some x→RdBlk A r x→∀ D,Ext A D→∃ D',callW CT f [.agg r] base D=some (.s (.bool (p x)),D')∧Ext D D') (hl:l.length < 2 ^ 40):
 ∃ H',callW CT (.fn k_f57 [] []) [v,f] base A=some (.s (.bool (l.any p)),H')∧Ext A H':=by
 obtain ⟨H',h1,h2⟩:=idxB_fun hI base A hv hp hl
 refine ⟨H',callW_fn (c:=s_f57) hT (by simp [s_f57]) ?_,h2⟩
 rw [← idxP_any]
 simp only [Iz] at h1
 simp only [s_f57,a_f57,aa,bl,i64,reduceIte,reduceCtorEq,Nat.reduceEqDiff,Nat.reduceLT,Nat.reduceLeDiff,Nat.reduceBEq,Nat.reduceAdd,fillA,splice,Nat.reduceMul,amY,op_eqP,h1]
theorem conI_fun (hT:CT k_f53=some (.code s_f53)) (hI:CT k_f68=some (.code s_f68)) (base:Nat) (A:Heap) {v f:V} {l:List InsD} {p:InsD→Bool} (hv:RdL 8 RdIns A v l) (hp:∀ (i:Nat) (x:InsD) (r:List V),l[i]?=some x→RdIns A r x→∀ D,Ext A D→∃ D',callW CT f [.agg r] base D=some (.s (.bool (p x)),D')∧Ext D D') (hl:l.length < 2 ^ 40):
 ∃ H',callW CT (.fn k_f53 [] []) [v,f] base A=some (.s (.bool (l.any p)),H')∧Ext A H':=by
 obtain ⟨H',h1,h2⟩:=idxI_fun hI base A hv hp hl
 refine ⟨H',callW_fn (c:=s_f53) hT (by simp [s_f53]) ?_,h2⟩
 rw [← idxP_any]
 simp only [Iz] at h1
 simp only [s_f53,a_f53,aa,bl,i64,reduceIte,reduceCtorEq,Nat.reduceEqDiff,Nat.reduceLT,Nat.reduceLeDiff,Nat.reduceBEq,Nat.reduceAdd,fillA,splice,Nat.reduceMul,amY,op_eqP,h1]
end
end Go.Proofs.YtamlbkalopefgaaR
set_option maxRecDepth 100000
namespace Go.Proofs.YtamlbkalopefgaaR
open Go.AM
def letter (c:Int):Bool:=decide (c ≥ 97) && decide (c≤122) || decide (c ≥ 65) && decide (c≤90) || c == 95
def badAt (i:Nat) (c:UInt8):Bool:=!letter c.toNat && ((i:Int) == 0 || (decide ((c.toNat:Int) < 48) || decide ((c.toNat:Int) > 57)) && (c.toNat:Int) != 46)
def okFrom:Nat→List UInt8→Bool
 | _,[]=>true
 | i,c :: l=>!badAt i c && okFrom (i+1) l
theorem is_loop (call:CallF) (base:Nat) (b:ByteArray) (hb:b.size≤64) (H:Heap):∀ (l:List UInt8) (i:Nat),b.data.toList.drop i=l→i≤b.size→
 itW (evC call itW base s_f7_l0) [] H.length (frOf 62 [(0,.s (.string b)),(18,.s (.int .i64 b.size)),(19,.s (.int .i64 i))]) H=
 bif okFrom i l then some (.ext 0,frOf 62 [(0,.s (.string b)),(18,.s (.int .i64 b.size)),(19,.s (.int .i64 b.size)),(20,bl false)],H) else some (.ret,frOf 62 [(2,bl false)],H):=by
 intro l
 have hsz:b.data.toList.length=b.size:=rfl
 induction l with
 | nil=>
   intro i hd hi
   have hin:i=b.size:=by
    have:=congrArg List.length hd
    rw [List.length_drop,hsz] at this
    simp at this
    omega
   subst hin
   rw [itW_step]
   simp only [a_f7,s_f7_l0_b,aa,bl,i64,reduceIte,reduceCtorEq,Nat.reduceEqDiff,Nat.reduceLT,Nat.reduceLeDiff,Nat.reduceBEq,Nat.reduceAdd,fillA,splice,Nat.reduceMul,amY,op_eqP,Int.lt_irrefl,okFrom]
 | cons c l ih=>
   intro i hd hi
   have hc:b.data.toList[i]?=some c:=by have:=congrArg (·[0]?) hd;simp only [List.getElem?_drop] at this;exact this
   have hlt:i < b.size:=by have:=(List.getElem?_eq_some_iff.1 hc).1;omega
   have hi':((i:Int) < (b.size:Int)):=by omega
   have hd':b.data.toList.drop (i+1)=l:=by
    have:=congrArg (List.drop 1) hd
    simpa [List.drop_drop,Nat.add_comm] using this
   have hw:IntKind.i64.wrap ((i:Int)+1)=((i+1:Nat):Int):=by rw [IntKind.wrap_i64];omega
   rw [itW_step]
   simp only [a_f7,s_f7_l0_b,aa,bl,i64,reduceIte,reduceCtorEq,Nat.reduceEqDiff,Nat.reduceLT,Nat.reduceLeDiff,Nat.reduceBEq,Nat.reduceAdd,fillA,splice,Nat.reduceMul,amY,op_eqP,hi',hc,hw,okFrom] at ih ⊢
   rw [ih (i+1) hd' hlt]
   cases h:badAt i c <;> (unfold badAt letter at h;simp only [h,aa,bl,i64,reduceIte,reduceCtorEq,Nat.reduceEqDiff,Nat.reduceLT,Nat.reduceLeDiff,Nat.reduceBEq,Nat.reduceAdd,fillA,splice,Nat.reduceMul,amY,op_eqP])
def isName (b:ByteArray):Bool:=!(b.data.toList == [] || decide ((b.size:Int) > 64) || b.data.toList == [110,117,108,108]) && okFrom 0 b.data.toList
theorem is_fun (CT:Nat→Option CFun) (hT:CT k_f7=some (.code s_f7)) (b:ByteArray) (base:Nat) (H:Heap):callW CT (.fn k_f7 [] []) [.s (.string b)] base H=some (bl (isName b),H):=by
 refine callW_fn (c:=s_f7) hT (by simp [s_f7]) ?_
 have hl:=is_loop (callW CT) base b
 simp only [s_f7,a_f7,s_f7_l0_b,aa,bl,i64,reduceIte,reduceCtorEq,Nat.reduceEqDiff,Nat.reduceLT,Nat.reduceLeDiff,Nat.reduceBEq,Nat.reduceAdd,fillA,splice,Nat.reduceMul,amY,op_eqP]
 cases hz:(b.data.toList == [] || decide ((b.size:Int) > 64) || b.data.toList == [110,117,108,108]) with
 | true=>simp only [hz,isName,aa,bl,i64,reduceIte,reduceCtorEq,Nat.reduceEqDiff,Nat.reduceLT,Nat.reduceLeDiff,Nat.reduceBEq,Nat.reduceAdd,fillA,splice,Nat.reduceMul,amY,op_eqP]
 | false=>
   have hb:b.size≤64:=by
    simp only [Bool.or_eq_false_iff,decide_eq_false_iff_not] at hz
    have:=hz.1.2
    omega
   have hl:=is_loop (callW CT) base b hb H b.data.toList 0 rfl (Nat.zero_le _)
   rw [show ((0:Nat):Int)=0 from rfl] at hl
   simp only [isName,hz,hl,a_f7,s_f7_l0_b,aa,bl,i64,reduceIte,reduceCtorEq,Nat.reduceEqDiff,Nat.reduceLT,Nat.reduceLeDiff,Nat.reduceBEq,Nat.reduceAdd,fillA,splice,Nat.reduceMul,amY,op_eqP]
   cases okFrom 0 b.data.toList <;> simp only [a_f7,s_f7_l0_b,aa,bl,i64,reduceIte,reduceCtorEq,Nat.reduceEqDiff,Nat.reduceLT,Nat.reduceLeDiff,Nat.reduceBEq,Nat.reduceAdd,fillA,splice,Nat.reduceMul,amY,op_eqP]
end Go.Proofs.YtamlbkalopefgaaR
set_option maxRecDepth 100000
namespace Go.Proofs.YtamlbkalopefgaaR
open Go.AM
def emptyB (s:ByteArray):Bool:=s.data.toList == []
def nullB (s:ByteArray):Bool:=s.data.toList == [110,117,108,108]
def badS (op:Bool) (s:ByteArray):Bool:=!emptyB s && !isName s && !(op && nullB s)
section
variable {CT:Nat→Option CFun}
theorem badName1_fun (hI:CT k_f7=some (.code s_f7)) (hT:CT k_f40=some (.code s_f40)) (base:Nat) (H:Heap) (s:ByteArray):callW CT (.fn k_f40 [] []) [Sb s] base H=some (.s (.bool (!isName s)),H):=by
 have h:=is_fun CT hI s base H
 refine callW_fn (c:=s_f40) hT (by simp [s_f40]) ?_
 simp only [bl] at h
 simp only [s_f40,a_f40,aa,bl,i64,reduceIte,reduceCtorEq,Nat.reduceEqDiff,Nat.reduceLT,Nat.reduceLeDiff,Nat.reduceBEq,Nat.reduceAdd,fillA,splice,Nat.reduceMul,amY,op_eqP,h]
theorem bad1_fun (hI:CT k_f7=some (.code s_f7)) (hT:CT k_f63=some (.code s_f63)) (base:Nat) {H:Heap} {id:Nat} {op:Bool} (hg:getC H id 0=some [.s (.bool op)]) (s:ByteArray):callW CT (.fn k_f63 [] [.ref id 0 0]) [Sb s] base H=some (.s (.bool (badS op s)),H):=by
 have h:=is_fun CT hI s base H
 have hx:=getC_load hg
 refine callW_fn (c:=s_f63) hT (by simp [s_f63]) ?_
 simp only [bl] at h
 unfold badS emptyB nullB
 cases h0:(s.data.toList == []) with
 | true=>simp only [s_f63,a_f63,aa,bl,i64,reduceIte,reduceCtorEq,Nat.reduceEqDiff,Nat.reduceLT,Nat.reduceLeDiff,Nat.reduceBEq,Nat.reduceAdd,fillA,splice,Nat.reduceMul,amY,op_eqP,h0]
 | false=>
   cases h1:isName s with
   | true=>
     rw [h1] at h
     simp only [s_f63,a_f63,aa,bl,i64,reduceIte,reduceCtorEq,Nat.reduceEqDiff,Nat.reduceLT,Nat.reduceLeDiff,Nat.reduceBEq,Nat.reduceAdd,fillA,splice,Nat.reduceMul,amY,op_eqP,h0,h]
   | false=>
     rw [h1] at h
     cases op with
     | true=>simp only [s_f63,a_f63,aa,bl,i64,reduceIte,reduceCtorEq,Nat.reduceEqDiff,Nat.reduceLT,Nat.reduceLeDiff,Nat.reduceBEq,Nat.reduceAdd,fillA,splice,Nat.reduceMul,amY,op_eqP,h0,h,hx]
     | false=>simp only [s_f63,a_f63,aa,bl,i64,reduceIte,reduceCtorEq,Nat.reduceEqDiff,Nat.reduceLT,Nat.reduceLeDiff,Nat.reduceBEq,Nat.reduceAdd,fillA,splice,Nat.reduceMul,amY,op_eqP,h0,h,hx]
theorem bad_fun (hI:CT k_f7=some (.code s_f7)) (hT1:CT k_f63=some (.code s_f63)) (hT:CT k_f41=some (.code s_f41)) (hC:CT k_f39=some (.code s_f39)) (hX:CT k_f62=some (.code s_f62)) (base:Nat) (H:Heap) (op:Bool) {v:V} {l:List ByteArray} (hv:Rd H v (l.map Sb)) (hw:Wide1 v) (hl:l.length < 2 ^ 40):
 ∃ H',callW CT (.fn k_f41 [] []) [.s (.bool op),v] base H=some (.s (.bool (l.any (badS op))),H')∧Ext H H':=by
 have e0:Ext H (H ++ [Ob.cells 0 [.s (.bool op)]]):=Ext.app _ _
 obtain ⟨H',h1,h2⟩:=conS_fun hC hX base (H ++ [Ob.cells 0 [.s (.bool op)]]) (f:=.fn k_f63 [] [.ref H.length 0 0]) (p:=badS op) (hv.ext e0) hw (fun x _ D hD=>⟨D,bad1_fun hI hT1 base (getC_ext (getC_new H 0 _) hD) x,Ext.refl D⟩) hl
 refine ⟨H',callW_fnA (c:=s_f41) (k:=2) hT rfl (by decide) s_f41_first ?_,e0.trans h2⟩
 simp only [s_f41,a_f41,aa,bl,i64,reduceIte,reduceCtorEq,Nat.reduceEqDiff,Nat.reduceLT,Nat.reduceLeDiff,Nat.reduceBEq,Nat.reduceAdd,fillA,splice,Nat.reduceMul,amY,op_eqP,xsub_mkFn,h1]
theorem indexS_fun (hT:CT k_f64=some (.code s_f64)) (base:Nat) (A:Heap) {v:V} {l:List ByteArray} (s:ByteArray) (hv:Rd A v (l.map Sb)) (hw:Wide1 v) (hl:l.length < 2 ^ 40):
 callW CT (.fn k_f64 [] []) [v,Sb s] base A=some (Iz (idxP (fun x=>s.data.toList == x.data.toList) l),A):=by
 have hlen:=Sb_len hv
 have step:∀ i,i < l.length→(s.data.toList == (l.getD i ⟨#[]⟩).data.toList)=false→itW (evC (callW CT) itW base s_f64_l0) [] A.length (frOf 19 [(0,v),(1,Sb s),(7,Iz l.length),(8,Iz i)]) A=itW (evC (callW CT) itW base s_f64_l0) [] A.length (frOf 19 [(0,v),(1,Sb s),(7,Iz l.length),(8,Iz (i+1:Nat))]) A:=by
  intro i hi hp
  have hlt':((i:Int) < (l.length:Int)):=by omega
  have hwk:=w64 (n:=i) (by omega)
  obtain ⟨a,a1,a2⟩:=Sb_at hv hw hi
  rw [itW_step]
  simp only [Iz,Sb,a_f64,s_f64_l0_b,aa,bl,i64,reduceIte,reduceCtorEq,Nat.reduceEqDiff,Nat.reduceLT,Nat.reduceLeDiff,Nat.reduceBEq,Nat.reduceAdd,fillA,splice,Nat.reduceMul,amY,op_eqP,hlt',a1,a2,hp,hwk,trim_same rfl]
 refine callW_fn (c:=s_f64) hT (by simp [s_f64]) ?_
 rcases it_find l.length (fun i=>s.data.toList == (l.getD i ⟨#[]⟩).data.toList) (fun i=>itW (evC (callW CT) itW base s_f64_l0) [] A.length (frOf 19 [(0,v),(1,Sb s),(7,Iz l.length),(8,Iz i)]) A) step with ⟨h1,h2⟩ | ⟨i,hi,h1,h2,h3⟩
 ·rw [idxP_none ⟨#[]⟩ h1]
  have hend:itW (evC (callW CT) itW base s_f64_l0) [] A.length (frOf 19 [(0,v),(1,Sb s),(7,Iz l.length),(8,Iz l.length)]) A=some (.ext 0,frOf 19 [(0,v),(1,Sb s),(7,Iz l.length),(8,Iz l.length),(9,bl false)],A):=by
   rw [itW_step]
   simp only [Iz,Sb,bl,a_f64,s_f64_l0_b,aa,bl,i64,reduceIte,reduceCtorEq,Nat.reduceEqDiff,Nat.reduceLT,Nat.reduceLeDiff,Nat.reduceBEq,Nat.reduceAdd,fillA,splice,Nat.reduceMul,amY,op_eqP,Int.lt_irrefl,trim_same rfl]
  have h4:=h2.trans hend
  simp only [Iz,Sb,bl,cast0] at h4
  simp only [Iz,Sb,s_f64,a_f64,s_f64_l0_b,aa,bl,i64,reduceIte,reduceCtorEq,Nat.reduceEqDiff,Nat.reduceLT,Nat.reduceLeDiff,Nat.reduceBEq,Nat.reduceAdd,fillA,splice,Nat.reduceMul,amY,op_eqP,hlen,h4]
 ·rw [idxP_some ⟨#[]⟩ hi h1 h2]
  have hlt':((i:Int) < (l.length:Int)):=by omega
  obtain ⟨a,a1,a2⟩:=Sb_at hv hw hi
  have hend:itW (evC (callW CT) itW base s_f64_l0) [] A.length (frOf 19 [(0,v),(1,Sb s),(7,Iz l.length),(8,Iz i)]) A=some (.ret,frOf 19 [(4,Iz i)],A):=by
   rw [itW_step]
   simp only [Iz,Sb,bl,a_f64,s_f64_l0_b,aa,bl,i64,reduceIte,reduceCtorEq,Nat.reduceEqDiff,Nat.reduceLT,Nat.reduceLeDiff,Nat.reduceBEq,Nat.reduceAdd,fillA,splice,Nat.reduceMul,amY,op_eqP,hlt',a1,a2,h1,trim_same rfl]
  have h4:=h3.trans hend
  simp only [Iz,Sb,bl,cast0] at h4
  simp only [Iz,Sb,s_f64,a_f64,s_f64_l0_b,aa,bl,i64,reduceIte,reduceCtorEq,Nat.reduceEqDiff,Nat.reduceLT,Nat.reduceLeDiff,Nat.reduceBEq,Nat.reduceAdd,fillA,splice,Nat.reduceMul,amY,op_eqP,hlen,h4]
theorem containsS_fun (hT:CT k_f42=some (.code s_f42)) (hI:CT k_f64=some (.code s_f64)) (base:Nat) (A:Heap) {v:V} {l:List ByteArray} (s:ByteArray) (hv:Rd A v (l.map Sb)) (hw:Wide1 v) (hl:l.length < 2 ^ 40):
 callW CT (.fn k_f42 [] []) [v,Sb s] base A=some (.s (.bool (l.any fun x=>s.data.toList == x.data.toList)),A):=by
 have h:=indexS_fun hI base A s hv hw hl
 refine callW_fn (c:=s_f42) hT (by simp [s_f42]) ?_
 rw [← idxP_any]
 simp only [Iz,Sb] at h
 simp only [Sb,s_f42,a_f42,aa,bl,i64,reduceIte,reduceCtorEq,Nat.reduceEqDiff,Nat.reduceLT,Nat.reduceLeDiff,Nat.reduceBEq,Nat.reduceAdd,fillA,splice,Nat.reduceMul,amY,op_eqP,h]
end
end Go.Proofs.YtamlbkalopefgaaR
set_option maxRecDepth 100000
namespace Go.AM
def srch {α β:Type} (f:Nat→α→Option β):List α→Nat→Option β
 | [],_=>none
 | x :: l,i=>match f i x with | some b=>some b | none=>srch f l (i+1)
theorem srch_some {α β:Type} {f:Nat→α→Option β} {b:β}:∀ {l:List α} {k:Nat},srch f l k=some b↔∃ i x,l[i]?=some x∧f (k+i) x=some b∧∀ j y,j < i→l[j]?=some y→f (k+j) y=none:=by
 intro l
 induction l with
 | nil=>intro k;simp [srch]
 | cons a l ih=>
   intro k
   rw [srch]
   cases h:f k a with
   | some c=>
     simp only
     constructor
     ·intro e
      exact ⟨0,a,rfl,by rw [Nat.add_zero,h];exact e,fun j y hj=>absurd hj (Nat.not_lt_zero _)⟩
     ·rintro ⟨i,x,hx,hf,hn⟩
      cases i with
      | zero=>
        rw [List.getElem?_cons_zero] at hx
        rw [← Option.some.inj hx,Nat.add_zero,h] at hf
        exact hf
      | succ i=>
        have:=hn 0 a (by omega) rfl
        rw [Nat.add_zero,h] at this
        cases this
   | none=>
     simp only
     rw [ih]
     constructor
     ·rintro ⟨i,x,hx,hf,hn⟩
      refine ⟨i+1,x,by rw [List.getElem?_cons_succ];exact hx,by rwa [show k+(i+1)=k+1+i by omega],fun j y hj hy=>?_⟩
      cases j with
      | zero=>rw [List.getElem?_cons_zero] at hy;rw [← Option.some.inj hy,Nat.add_zero];exact h
      | succ j=>
        rw [List.getElem?_cons_succ] at hy
        have:=hn j y (by omega) hy
        rwa [show k+1+j=k+(j+1) by omega] at this
     ·rintro ⟨i,x,hx,hf,hn⟩
      cases i with
      | zero=>
        rw [List.getElem?_cons_zero] at hx
        rw [← Option.some.inj hx,Nat.add_zero,h] at hf
        cases hf
      | succ i=>
        rw [List.getElem?_cons_succ] at hx
        refine ⟨i,x,hx,by rwa [show k+1+i=k+(i+1) by omega],fun j y hj hy=>?_⟩
        have:=hn (j+1) y (by omega) (by rw [List.getElem?_cons_succ];exact hy)
        rwa [show k+(j+1)=k+1+j by omega] at this
theorem it_srch {α β S T:Type} (l:List α) (d:α) (f:Nat→α→Option β) (P:Nat→S→Prop) (X:Nat→S→T) (Q:β→T→Prop) (step:∀ i s,i < l.length→P i s→(f i (l.getD i d)=none∧∃ s',X i s=X (i+1) s'∧P (i+1) s')∨∃ b,f i (l.getD i d)=some b∧Q b (X i s)):∀ s,P 0 s→(srch f l 0=none∧∃ s',X 0 s=X l.length s'∧P l.length s')∨∃ b,srch f l 0=some b∧Q b (X 0 s):=by
 have key:∀ (r:List α) (i:Nat) (s0 s:S),l.drop i=r→i≤l.length→X 0 s0=X i s→P i s→(srch f r i=none∧∃ s',X 0 s0=X l.length s'∧P l.length s')∨∃ b,srch f r i=some b∧Q b (X 0 s0):=by
  intro r
  induction r with
  | nil=>
    intro i s0 s hd hi hx hp
    have hin:i=l.length:=by
     have:=congrArg List.length hd
     rw [List.length_drop] at this
     simp at this
     omega
    subst hin
    exact .inl ⟨rfl,s,hx,hp⟩
  | cons a r ih=>
    intro i s0 s hd hi hx hp
    have hc:l[i]?=some a:=by have:=congrArg (·[0]?) hd;simp only [List.getElem?_drop] at this;exact this
    have hlt:i < l.length:=(List.getElem?_eq_some_iff.1 hc).1
    have hd':l.drop (i+1)=r:=by
     have:=congrArg (List.drop 1) hd
     simpa [List.drop_drop,Nat.add_comm] using this
    have hg:l.getD i d=a:=by rw [List.getD,hc];rfl
    rw [srch]
    rcases step i s hlt hp with ⟨h1,s',h2,h3⟩ | ⟨b,h1,h2⟩
    ·rw [hg] at h1
     rw [h1]
     exact ih (i+1) s0 s' hd' hlt (hx.trans h2) h3
    ·rw [hg] at h1
     rw [h1]
     exact .inr ⟨b,rfl,by rw [hx];exact h2⟩
 exact fun s hp=>key l 0 s s rfl (Nat.zero_le _) rfl hp
end Go.AM
set_option maxRecDepth 100000
namespace Go.AM
section
variable {κ:Type} [DecidableEq κ]
def SetOf (enc:κ→Value) (S:κ→Bool) (M:Ob):Prop:=∃ ks,M=.map (esG enc ks fun _=>.s (.bool true))∧ks.Nodup∧∀ l,l∈ks↔S l=true
theorem setOf_nil (enc:κ→Value):SetOf enc (fun _=>false) (.map []):=⟨[],rfl,List.nodup_nil,fun l=>by simp⟩
theorem SetOf.congr {enc:κ→Value} {S T:κ→Bool} {M:Ob} (h:SetOf enc S M) (e:∀ l,S l=T l):SetOf enc T M:=by
 obtain ⟨ks,h1,h2,h3⟩:=h
 exact ⟨ks,h1,h2,fun l=>by rw [h3,e]⟩
theorem setOf_put {kd:TypeDesc} {enc:κ→Value} (hs:∀ a b,Instr.sameNow kd (enc a) (enc b)=some (decide (a=b))) (hko:∀ a,keyOk kd (enc a)=true) {S:κ→Bool} {M:Ob} (h:SetOf enc S M) (k:κ) {H:Heap} {base j:Nat} (hb:base≤j) (hH:H[j]?=some M):
 ∃ M',updMV H base kd (.mp j) (.s (enc k)) (.s (.bool true))=some (und,H.set j M')∧SetOf enc (fun l=>S l || decide (l=k)) M':=by
 obtain ⟨ks,rfl,hn,hm⟩:=h
 refine ⟨_,upd_g hs hko hb hH k (.s (.bool true)),?_⟩
 by_cases hkk:k∈ks
 ·rw [if_pos hkk,esG_upd hn _ k hkk]
  refine ⟨ks,?_,hn,fun l=>?_⟩
  ·congr 1
   exact List.map_congr_left fun x _=>by by_cases e:x=k <;> simp [e]
  ·rw [hm,Bool.or_eq_true,decide_eq_true_iff]
   exact ⟨.inl,fun e=>e.elim id fun e=>by rw [e];exact (hm k).1 hkk⟩
 ·rw [if_neg hkk]
  refine ⟨ks ++ [k],?_,?_,fun l=>?_⟩
  ·congr 1
   simp [esG]
  ·rw [List.nodup_append]
   exact ⟨hn,by simp,fun a ha b hb e=>by rw [List.mem_singleton] at hb;exact hkk (by rw [← hb,← e];exact ha)⟩
  ·rw [List.mem_append,List.mem_singleton,hm,Bool.or_eq_true,decide_eq_true_iff]
theorem setOf_get {kd:TypeDesc} {enc:κ→Value} (hs:∀ a b,Instr.sameNow kd (enc a) (enc b)=some (decide (a=b))) (hko:∀ a,keyOk kd (enc a)=true) {S:κ→Bool} {M:Ob} (h:SetOf enc S M) (l:κ) {H:Heap} {j:Nat} (hH:H[j]?=some M):
 xMapGet H kd (.s (.bool false)) false (.mp j) (.s (enc l))=some (.s (.bool (S l))):=by
 obtain ⟨ks,rfl,hn,hm⟩:=h
 rw [get_g hs hko hH _ false l,if_neg Bool.false_ne_true]
 by_cases hl:l∈ks
 ·rw [if_pos hl,(hm l).1 hl]
 ·rw [if_neg hl]
  cases hS:S l with
  | false=>rfl
  | true=>exact absurd ((hm l).2 hS) hl
end
def esI (k:IntKind) (l:List (Int × V)):List (Value × V):=l.map fun p=>(.int k p.1,p.2)
theorem keyI (k:IntKind) (n:Int):keyOk (.int k) (.int k n)=true:=by simp [keyOk]
theorem sameI (k:IntKind) (a b:Int):Instr.sameNow (.int k) (.int k a) (.int k b)=some (decide (a=b)):=by
 cases k <;> (first | rw [sameNow_int] | skip) <;> rfl
theorem findA_I (k:IntKind) (n:Int):∀ (l:List (Int × V)) (i:Nat),findA (.int k) (.int k n) (esI k l) i=some (match l.findIdx? fun p=>decide (n=p.1) with | some j=>some (i+j,(l.getD j (0,und)).2) | none=>none):=by
 intro l
 induction l with
 | nil=>intro i;rfl
 | cons p l ih=>
   intro i
   have e:esI k (p :: l)=(.int k p.1,p.2) :: esI k l:=rfl
   rw [e]
   simp only [findA,sameI,List.findIdx?_cons]
   by_cases h:n=p.1
   ·simp [h]
   ·simp only [decide_eq_false h,ih,Bool.false_eq_true,if_false,cond_false]
    cases l.findIdx? fun p=>decide (n=p.1) with
    | none=>rfl
    | some j=>
      simp
      omega
def lookI (l:List (Int × V)) (n:Int):Option V:=match l.findIdx? fun p=>decide (n=p.1) with | some j=>some (l.getD j (0,und)).2 | none=>none
theorem upd_I {H:Heap} {base:Nat} (hb:base≤H.length) (k:IntKind) (l:List (Int × V)) (n:Int) (v:V) (hn:(l.all fun p=>decide (p.1≠n))=true):updMV (H ++ [.map (esI k l)]) base (.int k) (.mp H.length) (.s (.int k n)) v=some (und,H ++ [.map (esI k (l ++ [(n,v)]))]):=by
 have hH:(H ++ [Ob.map (esI k l)])[H.length]?=some (.map (esI k l)):=by simp
 have hf:=findA_I k n l 0
 have hnone:l.findIdx? (fun p=>decide (n=p.1))=none:=by
  rw [List.findIdx?_eq_none_iff]
  intro p hp
  have:=List.all_eq_true.1 hn p hp
  simpa using fun e=>(of_decide_eq_true this) e.symm
 rw [hnone] at hf
 simp only [updMV,hb,keyI,and_self,if_true,hH,hf]
 simp [esI]
theorem get_I {H:Heap} {j:Nat} (k:IntKind) {l:List (Int × V)} (hH:H[j]?=some (.map (esI k l))) (z:V) (ok:Bool) (n:Int):
 xMapGet H (.int k) z ok (.mp j) (.s (.int k n))=some (if ok then .tup [(lookI l n).getD z,bl (lookI l n).isSome] else (lookI l n).getD z):=by
 have hf:=findA_I k n l 0
 simp only [xMapGet,evOp,ev,List.getD_cons_zero,List.getD_cons_succ,keyI,if_true,hH,hf,lookI]
 cases l.findIdx? fun p=>decide (n=p.1) with
 | none=>cases ok <;> rfl
 | some j=>cases ok <;> rfl
end Go.AM
set_option maxRecDepth 100000
namespace Go.Proofs.YtamlbkalopefgaaR
open Go.AM
structure ShD where
 d:Bool
 a:Bool
 b:Bool
 k:Bool
 f:Bool
 xs:Bool
 ls:Bool
def ShD.c (s:ShD):List V:=[.s (.bool s.d),.s (.bool s.a),.s (.bool s.b),.s (.bool s.k),.s (.bool s.f),.s (.bool s.xs),.s (.bool s.ls)]
def shT:List (Int × V):=[(1,.agg (ShD.c ⟨true,false,false,true,false,false,false⟩)),(2,.agg (ShD.c ⟨true,false,false,true,false,false,false⟩)),(3,.agg (ShD.c ⟨true,false,false,false,false,false,false⟩)),(4,.agg (ShD.c ⟨true,false,false,false,true,false,false⟩)),(5,.agg (ShD.c ⟨true,true,false,false,false,false,false⟩)),(8,.agg (ShD.c ⟨true,true,false,false,false,false,false⟩)),(6,.agg (ShD.c ⟨true,false,false,false,false,true,true⟩)),(7,.agg (ShD.c ⟨true,true,false,true,false,false,false⟩)),(9,.agg (ShD.c ⟨false,true,true,false,false,false,false⟩)),(10,.agg (ShD.c ⟨true,false,false,false,true,true,false⟩)),(11,.agg (ShD.c ⟨true,true,false,false,false,true,false⟩)),(12,.agg (ShD.c ⟨false,false,false,false,false,false,true⟩)),(13,.agg (ShD.c ⟨false,false,false,false,false,false,true⟩)),(14,.agg (ShD.c ⟨false,true,false,false,false,false,false⟩))]
def shp (n:Int):ShD:=if n=1 then ⟨true,false,false,true,false,false,false⟩ else if n=2 then ⟨true,false,false,true,false,false,false⟩ else if n=3 then ⟨true,false,false,false,false,false,false⟩ else if n=4 then ⟨true,false,false,false,true,false,false⟩ else if n=5 then ⟨true,true,false,false,false,false,false⟩ else if n=8 then ⟨true,true,false,false,false,false,false⟩ else if n=6 then ⟨true,false,false,false,false,true,true⟩ else if n=7 then ⟨true,true,false,true,false,false,false⟩ else if n=9 then ⟨false,true,true,false,false,false,false⟩ else if n=10 then ⟨true,false,false,false,true,true,false⟩ else if n=11 then ⟨true,true,false,false,false,true,false⟩ else if n=12 then ⟨false,false,false,false,false,false,true⟩ else if n=13 then ⟨false,false,false,false,false,false,true⟩ else if n=14 then ⟨false,true,false,false,false,false,false⟩ else ⟨false,false,false,false,false,false,false⟩
theorem shT_get (n:Int):(lookI shT n).getD (.agg (ShD.c ⟨false,false,false,false,false,false,false⟩))=.agg (shp n).c:=by
 by_cases h1:n=1
 ·subst h1;rfl
 by_cases h2:n=2
 ·subst h2;rfl
 by_cases h3:n=3
 ·subst h3;rfl
 by_cases h4:n=4
 ·subst h4;rfl
 by_cases h5:n=5
 ·subst h5;rfl
 by_cases h8:n=8
 ·subst h8;rfl
 by_cases h6:n=6
 ·subst h6;rfl
 by_cases h7:n=7
 ·subst h7;rfl
 by_cases h9:n=9
 ·subst h9;rfl
 by_cases h10:n=10
 ·subst h10;rfl
 by_cases h11:n=11
 ·subst h11;rfl
 by_cases h12:n=12
 ·subst h12;rfl
 by_cases h13:n=13
 ·subst h13;rfl
 by_cases h14:n=14
 ·subst h14;rfl
 simp [lookI,shT,shp,List.findIdx?_cons,h1,h2,h3,h4,h5,h8,h6,h7,h9,h10,h11,h12,h13,h14]
section
variable {CT:Nat→Option CFun}
theorem shapes_fun (hT:CT k_f21=some (.code s_f21)) (base:Nat) (H:Heap) (hb:base≤H.length):callW CT (.fn k_f21 [] []) [] base H=some (.mp H.length,H ++ [.map (esI .u8 shT)]):=by
 refine callW_fn (c:=s_f21) hT (by simp [s_f21]) ?_
 have e0:(Ob.map []:Ob)=.map (esI .u8 []):=rfl
 have u1:=upd_I hb .u8 (shT.take 0) 1 (.agg (ShD.c ⟨true,false,false,true,false,false,false⟩)) (by decide)
 have u2:=upd_I hb .u8 (shT.take 1) 2 (.agg (ShD.c ⟨true,false,false,true,false,false,false⟩)) (by decide)
 have u3:=upd_I hb .u8 (shT.take 2) 3 (.agg (ShD.c ⟨true,false,false,false,false,false,false⟩)) (by decide)
 have u4:=upd_I hb .u8 (shT.take 3) 4 (.agg (ShD.c ⟨true,false,false,false,true,false,false⟩)) (by decide)
 have u5:=upd_I hb .u8 (shT.take 4) 5 (.agg (ShD.c ⟨true,true,false,false,false,false,false⟩)) (by decide)
 have u8:=upd_I hb .u8 (shT.take 5) 8 (.agg (ShD.c ⟨true,true,false,false,false,false,false⟩)) (by decide)
 have u6:=upd_I hb .u8 (shT.take 6) 6 (.agg (ShD.c ⟨true,false,false,false,false,true,true⟩)) (by decide)
 have u7:=upd_I hb .u8 (shT.take 7) 7 (.agg (ShD.c ⟨true,true,false,true,false,false,false⟩)) (by decide)
 have u9:=upd_I hb .u8 (shT.take 8) 9 (.agg (ShD.c ⟨false,true,true,false,false,false,false⟩)) (by decide)
 have u10:=upd_I hb .u8 (shT.take 9) 10 (.agg (ShD.c ⟨true,false,false,false,true,true,false⟩)) (by decide)
 have u11:=upd_I hb .u8 (shT.take 10) 11 (.agg (ShD.c ⟨true,true,false,false,false,true,false⟩)) (by decide)
 have u12:=upd_I hb .u8 (shT.take 11) 12 (.agg (ShD.c ⟨false,false,false,false,false,false,true⟩)) (by decide)
 have u13:=upd_I hb .u8 (shT.take 12) 13 (.agg (ShD.c ⟨false,false,false,false,false,false,true⟩)) (by decide)
 have u14:=upd_I hb .u8 (shT.take 13) 14 (.agg (ShD.c ⟨false,true,false,false,false,false,false⟩)) (by decide)
 simp only [shT,List.take_succ_cons,List.take_zero,List.cons_append,List.nil_append,ShD.c] at u1
 simp only [shT,List.take_succ_cons,List.take_zero,List.cons_append,List.nil_append,ShD.c] at u2
 simp only [shT,List.take_succ_cons,List.take_zero,List.cons_append,List.nil_append,ShD.c] at u3
 simp only [shT,List.take_succ_cons,List.take_zero,List.cons_append,List.nil_append,ShD.c] at u4
 simp only [shT,List.take_succ_cons,List.take_zero,List.cons_append,List.nil_append,ShD.c] at u5
 simp only [shT,List.take_succ_cons,List.take_zero,List.cons_append,List.nil_append,ShD.c] at u8
 simp only [shT,List.take_succ_cons,List.take_zero,List.cons_append,List.nil_append,ShD.c] at u6
 simp only [shT,List.take_succ_cons,List.take_zero,List.cons_append,List.nil_append,ShD.c] at u7
 simp only [shT,List.take_succ_cons,List.take_zero,List.cons_append,List.nil_append,ShD.c] at u9
 simp only [shT,List.take_succ_cons,List.take_zero,List.cons_append,List.nil_append,ShD.c] at u10
 simp only [shT,List.take_succ_cons,List.take_zero,List.cons_append,List.nil_append,ShD.c] at u11
 simp only [shT,List.take_succ_cons,List.take_zero,List.cons_append,List.nil_append,ShD.c] at u12
 simp only [shT,List.take_succ_cons,List.take_zero,List.cons_append,List.nil_append,ShD.c] at u13
 simp only [shT,List.take_succ_cons,List.take_zero,List.cons_append,List.nil_append,ShD.c] at u14
 simp only [shT,ShD.c]
 simp only [s_f21,a_f21,aa,bl,i64,reduceIte,reduceCtorEq,Nat.reduceEqDiff,Nat.reduceLT,Nat.reduceLeDiff,Nat.reduceBEq,Nat.reduceAdd,fillA,splice,Nat.reduceMul,amY,op_eqP,op_mapNew,op_mapUpd,hb,e0,u1,u2,u3,u4,u5,u8,u6,u7,u9,u10,u11,u12,u13,u14]
end
end Go.Proofs.YtamlbkalopefgaaR
set_option maxRecDepth 100000
namespace Go.Proofs.YtamlbkalopefgaaR
open Go.AM
abbrev Pt:=Nat × Nat × Nat
structure Small (fs:List FunD):Prop where
 n:fs.length < 2 ^ 20
 ps:∀ f∈fs,f.ps.length < 2 ^ 20
 nb:∀ f∈fs,f.blocks.length < 2 ^ 20
 nc:∀ f∈fs,∀ b∈f.blocks,b.code.length < 2 ^ 20
 xs:∀ f∈fs,∀ b∈f.blocks,∀ x∈b.code,x.xs.length < 2 ^ 20
 ls:∀ f∈fs,∀ b∈f.blocks,∀ x∈b.code,x.ls.length < 2 ^ 20
structure NC (A:Heap) (w sm:Nat) (fv:V) (fs:List FunD):Prop where
 gw:getC A w 0=some [fv,.mp sm]
 rd:RdProg A fv fs
 sml:Small fs
 sh:A[sm]?=some (.map (esI .u8 shT))
theorem Ext.at' {A B:Heap} (k:Ext A B) {i:Nat} {x:Ob} (h:A[i]?=some x):B[i]?=some x:=by
 obtain ⟨G,rfl⟩:=k
 rw [List.getElem?_append_left (List.getElem?_eq_some_iff.1 h).1]
 exact h
theorem NC.ext {A B:Heap} {w sm:Nat} {fv:V} {fs:List FunD} (h:NC A w sm fv fs) (k:Ext A B):NC B w sm fv fs:=⟨getC_ext h.gw k,h.rd.ext k,h.sml,Ext.at' k h.sh⟩
theorem NC.load {A B:Heap} {w sm:Nat} {fv:V} {fs:List FunD} (h:NC A w sm fv fs) (k:Ext A B):xLoad B false 1 (.ref w 0 0)=some fv:=by
 rw [xo_ref,getC_ext h.gw k];rfl
def Found (A:Heap) (n h:Nat) (t:Pt) (r:Option (Ex × List V × Heap)):Prop:=∃ D,r=some (.ret,frOf n [(2,.ref h 0 0),(3,bl true)],D)∧Ext A D∧getC D h 0=some [Iz t.1,Iz t.2.1,Iz t.2.2]
theorem rdI_ext {H H':Heap} {v:V} {l:List InsD} (h:RdL 8 RdIns H v l) (k:Ext H H'):RdL 8 RdIns H' v l:=RdL.ext (P:=RdIns) RdIns.ext h k
theorem rdB_ext {H H':Heap} {v:V} {l:List BlkD} (h:RdL 2 RdBlk H v l) (k:Ext H H'):RdL 2 RdBlk H' v l:=RdL.ext (P:=RdBlk) RdBlk.ext h k
def resP:Option Pt→V
 | none=>.tup [.agg [Iz 0,Iz 0,Iz 0],.s (.bool false)]
 | some (i,b,k)=>.tup [.agg [Iz i,Iz b,Iz k],.s (.bool true)]
end Go.Proofs.YtamlbkalopefgaaR
