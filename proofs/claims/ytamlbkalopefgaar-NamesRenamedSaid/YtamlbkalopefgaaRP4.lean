/- Texts of the proof: NmS3, NamA2, NmF1, NamA3, NamP1, NamP2, NamSh, NamB1, NamH1, NamH2, NamH3, NamC1, NamE2, NamG1, NamG2, NamG3. -/
import Derived.Test.YtamlbkalopefgaaRP0
import Derived.Test.YtamlbkalopefgaaRP1
import Derived.Test.YtamlbkalopefgaaRP2
import Derived.Test.YtamlbkalopefgaaRP3
set_option linter.all false
set_option maxRecDepth 100000
namespace Go.Proofs.YtamlbkalopefgaaR
open Go.AM
abbrev k_f11:Nat:=11
def K11_0:List Nat:=[0] ++ List.range' 3 18
def A11_0_0:=hQ K11_0 0
def A11_0_1:=hK K11_0 1
def A11_0_2:=hK K11_0 2
def R11_0t1:LO:=[⟨some 2,.alloc [.s (.int .u8 0),.s (.int .i64 0),.s (.int .i64 0),.s (.int .i64 0)],none⟩]
def R11_0:LO:=⟨some 1,.box (.t 0),none⟩ :: R11_0t1
def X11_0:=hP R11_0 R11_0t1 [0,2,3,4,5,6,7,8,9,10,11,12,13,14,15,16,17,18,19,20] K11_0 ⟨some 1,.box (.t 0),none⟩
def X11_0t1:=hX R11_0t1 K11_0 [⟨some 2,.alloc [.s (.int .u8 0),.s (.int .i64 0),.s (.int .i64 0),.s (.int .i64 0)],none⟩]
def R11_1:LO:=[⟨some 3,.move (.c (.s (.int .u8 1))),none⟩]
def T11_1:=hT R11_1 [] [3] 4 [] [(3,.c (.s (.int .u8 1)))] [.cc (.s (.int .u8 1))]
def R11_2:LO:=[oM 6 3,⟨some 7,.bin .leq (.t 6) (.c (.s (.int .u8 16))),none⟩]
def T11_2:=hT R11_2 [6] [7] 8 [] [(7,.op (.bin .leq (.t 0) (.c (.s (.int .u8 16)))) [.t 3,.c (.s (.int .u8 16))])] [.tt 3,sb []]
def R11_3t5:LO:=[oM 5 15]
def R11_3t4:LO:=⟨none,.store 3 (.t 4) (.t 14),none⟩ :: R11_3t5
def R11_3t3:LO:=⟨some 4,.alloc [.s (.int .i64 0),.s (.int .i64 0),.s (.int .i64 0)],none⟩ :: R11_3t4
def R11_3p2:LO:=[oM 10 13,⟨some 14,.extract (.t 10) 0,none⟩,⟨some 15,.extract (.t 10) 1,none⟩]
def R11_3t2:LO:=R11_3p2 ++ R11_3t3
def R11_3t1:LO:=⟨some 13,.call (.c (.fn 12 [] [])) [.t 11,.t 12],none⟩ :: R11_3t2
def R11_3p0:LO:=[⟨some 11,.load true 1 (.t 1),none⟩,oM 12 3]
def R11_3:LO:=R11_3p0 ++ R11_3t1
def T11_3p0:=hT R11_3p0 [7] [11,12] 13 [] [(11,.op (.load true 1 (.t 0)) [.t 1]),(12,.t 3)] [sb [],.tt 3]
def X11_3:=hS R11_3 R11_3p0 R11_3t1 [7] [11,12] [7,10,11,12,13,14,15]
def X11_3t1:=hP R11_3t1 R11_3t2 [11,12] [7,10,11,12,13,14,15] ⟨some 13,.call (.c (.fn 12 [] [])) [.t 11,.t 12],none⟩
def T11_3p2:=hT R11_3p2 [10,13] [14,15] 16 [] [(14,.op (.extract (.t 0) 0) [.t 13]),(15,.op (.extract (.t 0) 1) [.t 13])] [.tt 13,sb [],.sub 1 [] []]
def X11_3t2:=hS R11_3t2 R11_3p2 R11_3t3 [10,13] [14,15] [7,10,11,12,13,14,15]
def X11_3t3:=hP R11_3t3 R11_3t4 [] [7,10,11,12,13,14,15] ⟨some 4,.alloc [.s (.int .i64 0),.s (.int .i64 0),.s (.int .i64 0)],none⟩
def X11_3t4:=hP R11_3t4 R11_3t5 [14] [7,10,11,12,13,14,15] ⟨none,.store 3 (.t 4) (.t 14),none⟩
def T11_3t5:=hT R11_3t5 [7,10,11,12,13,14,15] [5] 6 [] [(5,.t 15)] [.tt 15]
def X11_3t5:=hL R11_3t5 [7,10,11,12,13,14,15] [5]
def R11_4:LO:=[oM 16 5]
def T11_4:=hT R11_4 [5] [16] 17 [] [(16,.t 5)] [.tt 5]
def R11_5t1:LO:=[⟨none,.store 4 (.t 2) (.t 19),none⟩]
def R11_5p0:LO:=[oM 17 3,⟨some 18,.load true 3 (.t 4),none⟩,⟨some 19,.build [.s (.int .u8 0),.s (.int .i64 0),.s (.int .i64 0),.s (.int .i64 0)] [(0,1),(1,3)] [(0,.t 17),(1,.t 18)],none⟩]
def R11_5:LO:=R11_5p0 ++ R11_5t1
def T11_5p0:=hT R11_5p0 [1,3,4,16,17,18] [19] 20 [] [(19,.op (.build [.s (.int .u8 0),.s (.int .i64 0),.s (.int .i64 0),.s (.int .i64 0)] [(0,1),(1,3)] [(0,.t 0),(1,.t 1)]) [.t 3,.op (.load true 3 (.t 0)) [.t 4]])] [.tt 3,sb [1],sb []]
def X11_5:=hS R11_5 R11_5p0 R11_5t1 [1,3,4,16,17,18] [19] [1,3,4,16,17,18,19]
def X11_5t1:=hX R11_5t1 [1,3,4,16,17,18,19] [⟨none,.store 4 (.t 2) (.t 19),none⟩]
def R11_6:LO:=[oM 8 3,⟨some 9,.bin .add (.t 8) (.c (.s (.int .u8 1))),none⟩,oM 3 9]
def T11_6:=hT R11_6 [4,8,9,16] [3] 10 [] [(3,.op (.bin .add (.t 0) (.c (.s (.int .u8 1)))) [.t 3,.c (.s (.int .u8 1))])] [.tt 3,sb [],sb []]
def s_f11_l0_b:ACode:=
 (.seq (.seq (.regionE R11_2 [6] [7])
 (.cond (.t 7)
 .skip
 (.exit 0)))
 (.seq (.block 1
 (.seq (.region R11_3 [] [7,10,11,12,13,14,15])
 (.seq (.regionE R11_4 [5] [16])
 (.cond (.t 16)
 (.seq (.region R11_5 [] [1,3,4,16,17,18,19])
 .ret)
 .skip))))
 (.regionE R11_6 [4,8,9,16] [3])))
def s_f11_l0:ACode:=s_f11_l0_b
def s_f11_l0_ev:=hE s_f11_l0 s_f11_l0_b
def R11_7t1:LO:=[⟨none,.store 4 (.t 2) (.t 20),none⟩]
def R11_7p0:LO:=[⟨some 20,.build [.s (.int .u8 0),.s (.int .i64 0),.s (.int .i64 0),.s (.int .i64 0)] [(0,1),(1,3)] [],none⟩]
def R11_7:LO:=R11_7p0 ++ R11_7t1
def T11_7p0:=hT R11_7p0 [1,3,7] [20] 21 [] [(20,.op (.build [.s (.int .u8 0),.s (.int .i64 0),.s (.int .i64 0),.s (.int .i64 0)] [(0,1),(1,3)] []) [])] [sb []]
def X11_7:=hS R11_7 R11_7p0 R11_7t1 [1,3,7] [20] [1,3,7,20]
def X11_7t1:=hX R11_7t1 [1,3,7,20] [⟨none,.store 4 (.t 2) (.t 20),none⟩]
def s_f11:ACFun:={ ntmps:=21,results:=[.cell 2 true 4],body:=
 (.seq (.region R11_0 [] K11_0)
 (.seq (.seq (.regionE R11_1 [] [3])
 (.block 0
 (.loop [] s_f11_l0)))
 (.seq (.region R11_7 [] [1,3,7,20])
 .ret))) }
theorem s_f11_first:firstOk (List.range' 1 (s_f11.ntmps - 1)) s_f11.body=true:=by kernel_rfl
abbrev k_f12:Nat:=12
def K12_0:List Nat:=[0,3] ++ List.range' 5 50
def A12_0_0:=hQ K12_0 0
def A12_0_1:=hK K12_0 1
def A12_0_2:=hK K12_0 2
def A12_0_4:=hK K12_0 4
def A12_0_5:=hQ K12_0 5
def R12_0t2:LO:=[⟨some 5,.move (.c (.s (.bool false))),none⟩]
def R12_0t1:LO:=⟨some 4,.alloc [.s (.int .i64 0),.s (.int .i64 0),.s (.int .i64 0)],none⟩ :: R12_0t2
def R12_0p0:LO:=[⟨some 2,.box (.t 0),none⟩]
def R12_0:LO:=R12_0p0 ++ R12_0t1
def K12_0p0:List Nat:=[0] ++ List.range' 3 52
def A12_0p0_0:=hQ K12_0p0 0
def A12_0p0_1:=hK K12_0p0 1
def A12_0p0_2:=hK K12_0p0 2
def A12_0p0_4:=hQ K12_0p0 4
def A12_0p0_5:=hQ K12_0p0 5
theorem X12_0 (call:CallF) (it:IterF) (base:Nat) (f:List V) (H:Heap):evC call it base (.region R12_0 [] K12_0) f H=thenC call it base (.region R12_0t1 [] K12_0) (opsC [] R12_0p0 K12_0p0 (evOps call base [⟨some 2,.box (.t 0),none⟩] f H)):=(row_op call it base R12_0p0 R12_0t1 (kc:=K12_0p0) (by kernel_rfl) f H).trans (by rw [row_ops];rfl)
def X12_0t1:=hP R12_0t1 R12_0t2 [] K12_0 ⟨some 4,.alloc [.s (.int .i64 0),.s (.int .i64 0),.s (.int .i64 0)],none⟩
def T12_0t2:=hT R12_0t2 K12_0 [] 6 [] [] [.cc (.s (.bool false))]
def X12_0t2:=hL R12_0t2 K12_0 []
def R12_1t4:LO:=[oM 6 11]
def R12_1t3:LO:=⟨some 11,.box (.t 10),none⟩ :: R12_1t4
def R12_1p2:LO:=[⟨some 10,.build [.s (.slice none 0 0),.s (.map none)] [(0,1),(1,1)] [(0,.t 8),(1,.t 9)],none⟩]
def R12_1t2:LO:=R12_1p2 ++ R12_1t3
def R12_1t1:LO:=⟨some 9,.callR (.c (.fn 21 [] [])) [],none⟩ :: R12_1t2
def R12_1p0:LO:=[⟨some 8,.load true 1 (.t 2),none⟩]
def R12_1:LO:=R12_1p0 ++ R12_1t1
def T12_1p0:=hT R12_1p0 [2] [8] 9 [] [(8,.op (.load true 1 (.t 0)) [.t 2])] [sb []]
def X12_1:=hS R12_1 R12_1p0 R12_1t1 [2] [8] [2,8,9,10,11]
def X12_1t1:=hP R12_1t1 R12_1t2 [] [2,8,9,10,11] ⟨some 9,.callR (.c (.fn 21 [] [])) [],none⟩
def T12_1p2:=hT R12_1p2 [8,9] [10] 11 [] [(10,.op (.build [.s (.slice none 0 0),.s (.map none)] [(0,1),(1,1)] [(0,.t 0),(1,.t 1)]) [.t 8,.t 9])] [sb []]
def X12_1t2:=hS R12_1t2 R12_1p2 R12_1t3 [8,9] [10] [2,8,9,10,11]
def X12_1t3:=hP R12_1t3 R12_1t4 [10] [2,8,9,10,11] ⟨some 11,.box (.t 10),none⟩
def T12_1t4:=hT R12_1t4 [2,8,9,10,11] [6] 7 [] [(6,.t 11)] [.tt 11]
def X12_1t4:=hL R12_1t4 [2,8,9,10,11] [6]
def R12_2t33:LO:=[oM 45 12,oM 46 1,⟨some 47,.mapGet (.int .u8) (.s .nilFunc) (.t 45) (.t 46) false,none⟩,oM 7 47]
def R12_2t32:LO:=⟨none,.mapUpd (.int .u8) (.t 12) (.c (.s (.int .u8 16))) (.t 44),none⟩ :: R12_2t33
def R12_2p31:LO:=[oM 43 6,⟨some 44,.mkFn 37 [.t 43] [],none⟩]
def R12_2t31:LO:=R12_2p31 ++ R12_2t32
def R12_2t30:LO:=⟨none,.mapUpd (.int .u8) (.t 12) (.c (.s (.int .u8 15))) (.t 42),none⟩ :: R12_2t31
def R12_2p29:LO:=[oM 41 6,⟨some 42,.mkFn 36 [.t 41] [],none⟩]
def R12_2t29:LO:=R12_2p29 ++ R12_2t30
def R12_2t28:LO:=⟨none,.mapUpd (.int .u8) (.t 12) (.c (.s (.int .u8 14))) (.t 40),none⟩ :: R12_2t29
def R12_2p27:LO:=[oM 39 6,⟨some 40,.mkFn 35 [.t 39] [],none⟩]
def R12_2t27:LO:=R12_2p27 ++ R12_2t28
def R12_2t26:LO:=⟨none,.mapUpd (.int .u8) (.t 12) (.c (.s (.int .u8 13))) (.t 38),none⟩ :: R12_2t27
def R12_2p25:LO:=[oM 37 6,⟨some 38,.mkFn 34 [.t 37] [],none⟩]
def R12_2t25:LO:=R12_2p25 ++ R12_2t26
def R12_2t24:LO:=⟨none,.mapUpd (.int .u8) (.t 12) (.c (.s (.int .u8 12))) (.t 36),none⟩ :: R12_2t25
def R12_2p23:LO:=[oM 35 6,⟨some 36,.mkFn 33 [.t 35] [],none⟩]
def R12_2t23:LO:=R12_2p23 ++ R12_2t24
def R12_2t22:LO:=⟨none,.mapUpd (.int .u8) (.t 12) (.c (.s (.int .u8 11))) (.t 34),none⟩ :: R12_2t23
def R12_2p21:LO:=[oM 33 6,⟨some 34,.mkFn 32 [.t 33] [],none⟩]
def R12_2t21:LO:=R12_2p21 ++ R12_2t22
def R12_2t20:LO:=⟨none,.mapUpd (.int .u8) (.t 12) (.c (.s (.int .u8 10))) (.t 32),none⟩ :: R12_2t21
def R12_2p19:LO:=[oM 31 6,⟨some 32,.mkFn 31 [.t 31] [],none⟩]
def R12_2t19:LO:=R12_2p19 ++ R12_2t20
def R12_2t18:LO:=⟨none,.mapUpd (.int .u8) (.t 12) (.c (.s (.int .u8 9))) (.t 30),none⟩ :: R12_2t19
def R12_2p17:LO:=[oM 29 6,⟨some 30,.mkFn 30 [.t 29] [],none⟩]
def R12_2t17:LO:=R12_2p17 ++ R12_2t18
def R12_2t16:LO:=⟨none,.mapUpd (.int .u8) (.t 12) (.c (.s (.int .u8 8))) (.t 28),none⟩ :: R12_2t17
def R12_2p15:LO:=[oM 27 6,⟨some 28,.mkFn 29 [.t 27] [],none⟩]
def R12_2t15:LO:=R12_2p15 ++ R12_2t16
def R12_2t14:LO:=⟨none,.mapUpd (.int .u8) (.t 12) (.c (.s (.int .u8 7))) (.t 26),none⟩ :: R12_2t15
def R12_2p13:LO:=[oM 25 6,⟨some 26,.mkFn 28 [.t 25] [],none⟩]
def R12_2t13:LO:=R12_2p13 ++ R12_2t14
def R12_2t12:LO:=⟨none,.mapUpd (.int .u8) (.t 12) (.c (.s (.int .u8 6))) (.t 24),none⟩ :: R12_2t13
def R12_2p11:LO:=[oM 23 6,⟨some 24,.mkFn 27 [.t 23] [],none⟩]
def R12_2t11:LO:=R12_2p11 ++ R12_2t12
def R12_2t10:LO:=⟨none,.mapUpd (.int .u8) (.t 12) (.c (.s (.int .u8 5))) (.t 22),none⟩ :: R12_2t11
def R12_2p9:LO:=[oM 21 6,⟨some 22,.mkFn 26 [.t 21] [],none⟩]
def R12_2t9:LO:=R12_2p9 ++ R12_2t10
def R12_2t8:LO:=⟨none,.mapUpd (.int .u8) (.t 12) (.c (.s (.int .u8 4))) (.t 20),none⟩ :: R12_2t9
def R12_2p7:LO:=[oM 19 6,⟨some 20,.mkFn 25 [.t 19] [],none⟩]
def R12_2t7:LO:=R12_2p7 ++ R12_2t8
def R12_2t6:LO:=⟨none,.mapUpd (.int .u8) (.t 12) (.c (.s (.int .u8 3))) (.t 18),none⟩ :: R12_2t7
def R12_2p5:LO:=[oM 17 6,⟨some 18,.mkFn 24 [.t 17] [],none⟩]
def R12_2t5:LO:=R12_2p5 ++ R12_2t6
def R12_2t4:LO:=⟨none,.mapUpd (.int .u8) (.t 12) (.c (.s (.int .u8 2))) (.t 16),none⟩ :: R12_2t5
def R12_2p3:LO:=[oM 15 6,⟨some 16,.mkFn 23 [.t 15] [],none⟩]
def R12_2t3:LO:=R12_2p3 ++ R12_2t4
def R12_2t2:LO:=⟨none,.mapUpd (.int .u8) (.t 12) (.c (.s (.int .u8 1))) (.t 14),none⟩ :: R12_2t3
def R12_2p1:LO:=[oM 13 6,⟨some 14,.mkFn 22 [.t 13] [],none⟩]
def R12_2t1:LO:=R12_2p1 ++ R12_2t2
def R12_2:LO:=⟨some 12,.mapNew,none⟩ :: R12_2t1
def X12_2:=hP R12_2 R12_2t1 [] [1,6,12,13,14,15,16,17,18,19,20,21,22,23,24,25,26,27,28,29,30,31,32,33,34,35,36,37,38,39,40,41,42,43,44,45,46,47] ⟨some 12,.mapNew,none⟩
def T12_2p1:=hT R12_2p1 [13] [14] 15 [] [(14,.op (.mkFn 22 [.t 0] []) [.t 6])] [.tt 6,sb []]
def X12_2t1:=hS R12_2t1 R12_2p1 R12_2t2 [13] [14] [1,6,12,13,14,15,16,17,18,19,20,21,22,23,24,25,26,27,28,29,30,31,32,33,34,35,36,37,38,39,40,41,42,43,44,45,46,47]
def X12_2t2:=hP R12_2t2 R12_2t3 [14] [1,6,12,13,14,15,16,17,18,19,20,21,22,23,24,25,26,27,28,29,30,31,32,33,34,35,36,37,38,39,40,41,42,43,44,45,46,47] ⟨none,.mapUpd (.int .u8) (.t 12) (.c (.s (.int .u8 1))) (.t 14),none⟩
def T12_2p3:=hT R12_2p3 [15] [16] 17 [] [(16,.op (.mkFn 23 [.t 0] []) [.t 6])] [.tt 6,sb []]
def X12_2t3:=hS R12_2t3 R12_2p3 R12_2t4 [15] [16] [1,6,12,13,14,15,16,17,18,19,20,21,22,23,24,25,26,27,28,29,30,31,32,33,34,35,36,37,38,39,40,41,42,43,44,45,46,47]
def X12_2t4:=hP R12_2t4 R12_2t5 [16] [1,6,12,13,14,15,16,17,18,19,20,21,22,23,24,25,26,27,28,29,30,31,32,33,34,35,36,37,38,39,40,41,42,43,44,45,46,47] ⟨none,.mapUpd (.int .u8) (.t 12) (.c (.s (.int .u8 2))) (.t 16),none⟩
def T12_2p5:=hT R12_2p5 [17] [18] 19 [] [(18,.op (.mkFn 24 [.t 0] []) [.t 6])] [.tt 6,sb []]
def X12_2t5:=hS R12_2t5 R12_2p5 R12_2t6 [17] [18] [1,6,12,13,14,15,16,17,18,19,20,21,22,23,24,25,26,27,28,29,30,31,32,33,34,35,36,37,38,39,40,41,42,43,44,45,46,47]
def X12_2t6:=hP R12_2t6 R12_2t7 [18] [1,6,12,13,14,15,16,17,18,19,20,21,22,23,24,25,26,27,28,29,30,31,32,33,34,35,36,37,38,39,40,41,42,43,44,45,46,47] ⟨none,.mapUpd (.int .u8) (.t 12) (.c (.s (.int .u8 3))) (.t 18),none⟩
def T12_2p7:=hT R12_2p7 [19] [20] 21 [] [(20,.op (.mkFn 25 [.t 0] []) [.t 6])] [.tt 6,sb []]
def X12_2t7:=hS R12_2t7 R12_2p7 R12_2t8 [19] [20] [1,6,12,13,14,15,16,17,18,19,20,21,22,23,24,25,26,27,28,29,30,31,32,33,34,35,36,37,38,39,40,41,42,43,44,45,46,47]
def X12_2t8:=hP R12_2t8 R12_2t9 [20] [1,6,12,13,14,15,16,17,18,19,20,21,22,23,24,25,26,27,28,29,30,31,32,33,34,35,36,37,38,39,40,41,42,43,44,45,46,47] ⟨none,.mapUpd (.int .u8) (.t 12) (.c (.s (.int .u8 4))) (.t 20),none⟩
def T12_2p9:=hT R12_2p9 [21] [22] 23 [] [(22,.op (.mkFn 26 [.t 0] []) [.t 6])] [.tt 6,sb []]
def X12_2t9:=hS R12_2t9 R12_2p9 R12_2t10 [21] [22] [1,6,12,13,14,15,16,17,18,19,20,21,22,23,24,25,26,27,28,29,30,31,32,33,34,35,36,37,38,39,40,41,42,43,44,45,46,47]
def X12_2t10:=hP R12_2t10 R12_2t11 [22] [1,6,12,13,14,15,16,17,18,19,20,21,22,23,24,25,26,27,28,29,30,31,32,33,34,35,36,37,38,39,40,41,42,43,44,45,46,47] ⟨none,.mapUpd (.int .u8) (.t 12) (.c (.s (.int .u8 5))) (.t 22),none⟩
def T12_2p11:=hT R12_2p11 [23] [24] 25 [] [(24,.op (.mkFn 27 [.t 0] []) [.t 6])] [.tt 6,sb []]
def X12_2t11:=hS R12_2t11 R12_2p11 R12_2t12 [23] [24] [1,6,12,13,14,15,16,17,18,19,20,21,22,23,24,25,26,27,28,29,30,31,32,33,34,35,36,37,38,39,40,41,42,43,44,45,46,47]
def X12_2t12:=hP R12_2t12 R12_2t13 [24] [1,6,12,13,14,15,16,17,18,19,20,21,22,23,24,25,26,27,28,29,30,31,32,33,34,35,36,37,38,39,40,41,42,43,44,45,46,47] ⟨none,.mapUpd (.int .u8) (.t 12) (.c (.s (.int .u8 6))) (.t 24),none⟩
def T12_2p13:=hT R12_2p13 [25] [26] 27 [] [(26,.op (.mkFn 28 [.t 0] []) [.t 6])] [.tt 6,sb []]
def X12_2t13:=hS R12_2t13 R12_2p13 R12_2t14 [25] [26] [1,6,12,13,14,15,16,17,18,19,20,21,22,23,24,25,26,27,28,29,30,31,32,33,34,35,36,37,38,39,40,41,42,43,44,45,46,47]
def X12_2t14:=hP R12_2t14 R12_2t15 [26] [1,6,12,13,14,15,16,17,18,19,20,21,22,23,24,25,26,27,28,29,30,31,32,33,34,35,36,37,38,39,40,41,42,43,44,45,46,47] ⟨none,.mapUpd (.int .u8) (.t 12) (.c (.s (.int .u8 7))) (.t 26),none⟩
def T12_2p15:=hT R12_2p15 [27] [28] 29 [] [(28,.op (.mkFn 29 [.t 0] []) [.t 6])] [.tt 6,sb []]
def X12_2t15:=hS R12_2t15 R12_2p15 R12_2t16 [27] [28] [1,6,12,13,14,15,16,17,18,19,20,21,22,23,24,25,26,27,28,29,30,31,32,33,34,35,36,37,38,39,40,41,42,43,44,45,46,47]
def X12_2t16:=hP R12_2t16 R12_2t17 [28] [1,6,12,13,14,15,16,17,18,19,20,21,22,23,24,25,26,27,28,29,30,31,32,33,34,35,36,37,38,39,40,41,42,43,44,45,46,47] ⟨none,.mapUpd (.int .u8) (.t 12) (.c (.s (.int .u8 8))) (.t 28),none⟩
def T12_2p17:=hT R12_2p17 [29] [30] 31 [] [(30,.op (.mkFn 30 [.t 0] []) [.t 6])] [.tt 6,sb []]
def X12_2t17:=hS R12_2t17 R12_2p17 R12_2t18 [29] [30] [1,6,12,13,14,15,16,17,18,19,20,21,22,23,24,25,26,27,28,29,30,31,32,33,34,35,36,37,38,39,40,41,42,43,44,45,46,47]
def X12_2t18:=hP R12_2t18 R12_2t19 [30] [1,6,12,13,14,15,16,17,18,19,20,21,22,23,24,25,26,27,28,29,30,31,32,33,34,35,36,37,38,39,40,41,42,43,44,45,46,47] ⟨none,.mapUpd (.int .u8) (.t 12) (.c (.s (.int .u8 9))) (.t 30),none⟩
def T12_2p19:=hT R12_2p19 [31] [32] 33 [] [(32,.op (.mkFn 31 [.t 0] []) [.t 6])] [.tt 6,sb []]
def X12_2t19:=hS R12_2t19 R12_2p19 R12_2t20 [31] [32] [1,6,12,13,14,15,16,17,18,19,20,21,22,23,24,25,26,27,28,29,30,31,32,33,34,35,36,37,38,39,40,41,42,43,44,45,46,47]
def X12_2t20:=hP R12_2t20 R12_2t21 [32] [1,6,12,13,14,15,16,17,18,19,20,21,22,23,24,25,26,27,28,29,30,31,32,33,34,35,36,37,38,39,40,41,42,43,44,45,46,47] ⟨none,.mapUpd (.int .u8) (.t 12) (.c (.s (.int .u8 10))) (.t 32),none⟩
def T12_2p21:=hT R12_2p21 [33] [34] 35 [] [(34,.op (.mkFn 32 [.t 0] []) [.t 6])] [.tt 6,sb []]
def X12_2t21:=hS R12_2t21 R12_2p21 R12_2t22 [33] [34] [1,6,12,13,14,15,16,17,18,19,20,21,22,23,24,25,26,27,28,29,30,31,32,33,34,35,36,37,38,39,40,41,42,43,44,45,46,47]
def X12_2t22:=hP R12_2t22 R12_2t23 [34] [1,6,12,13,14,15,16,17,18,19,20,21,22,23,24,25,26,27,28,29,30,31,32,33,34,35,36,37,38,39,40,41,42,43,44,45,46,47] ⟨none,.mapUpd (.int .u8) (.t 12) (.c (.s (.int .u8 11))) (.t 34),none⟩
def T12_2p23:=hT R12_2p23 [35] [36] 37 [] [(36,.op (.mkFn 33 [.t 0] []) [.t 6])] [.tt 6,sb []]
def X12_2t23:=hS R12_2t23 R12_2p23 R12_2t24 [35] [36] [1,6,12,13,14,15,16,17,18,19,20,21,22,23,24,25,26,27,28,29,30,31,32,33,34,35,36,37,38,39,40,41,42,43,44,45,46,47]
def X12_2t24:=hP R12_2t24 R12_2t25 [36] [1,6,12,13,14,15,16,17,18,19,20,21,22,23,24,25,26,27,28,29,30,31,32,33,34,35,36,37,38,39,40,41,42,43,44,45,46,47] ⟨none,.mapUpd (.int .u8) (.t 12) (.c (.s (.int .u8 12))) (.t 36),none⟩
def T12_2p25:=hT R12_2p25 [37] [38] 39 [] [(38,.op (.mkFn 34 [.t 0] []) [.t 6])] [.tt 6,sb []]
def X12_2t25:=hS R12_2t25 R12_2p25 R12_2t26 [37] [38] [1,6,12,13,14,15,16,17,18,19,20,21,22,23,24,25,26,27,28,29,30,31,32,33,34,35,36,37,38,39,40,41,42,43,44,45,46,47]
def X12_2t26:=hP R12_2t26 R12_2t27 [38] [1,6,12,13,14,15,16,17,18,19,20,21,22,23,24,25,26,27,28,29,30,31,32,33,34,35,36,37,38,39,40,41,42,43,44,45,46,47] ⟨none,.mapUpd (.int .u8) (.t 12) (.c (.s (.int .u8 13))) (.t 38),none⟩
def T12_2p27:=hT R12_2p27 [39] [40] 41 [] [(40,.op (.mkFn 35 [.t 0] []) [.t 6])] [.tt 6,sb []]
def X12_2t27:=hS R12_2t27 R12_2p27 R12_2t28 [39] [40] [1,6,12,13,14,15,16,17,18,19,20,21,22,23,24,25,26,27,28,29,30,31,32,33,34,35,36,37,38,39,40,41,42,43,44,45,46,47]
def X12_2t28:=hP R12_2t28 R12_2t29 [40] [1,6,12,13,14,15,16,17,18,19,20,21,22,23,24,25,26,27,28,29,30,31,32,33,34,35,36,37,38,39,40,41,42,43,44,45,46,47] ⟨none,.mapUpd (.int .u8) (.t 12) (.c (.s (.int .u8 14))) (.t 40),none⟩
def T12_2p29:=hT R12_2p29 [41] [42] 43 [] [(42,.op (.mkFn 36 [.t 0] []) [.t 6])] [.tt 6,sb []]
def X12_2t29:=hS R12_2t29 R12_2p29 R12_2t30 [41] [42] [1,6,12,13,14,15,16,17,18,19,20,21,22,23,24,25,26,27,28,29,30,31,32,33,34,35,36,37,38,39,40,41,42,43,44,45,46,47]
def X12_2t30:=hP R12_2t30 R12_2t31 [42] [1,6,12,13,14,15,16,17,18,19,20,21,22,23,24,25,26,27,28,29,30,31,32,33,34,35,36,37,38,39,40,41,42,43,44,45,46,47] ⟨none,.mapUpd (.int .u8) (.t 12) (.c (.s (.int .u8 15))) (.t 42),none⟩
def T12_2p31:=hT R12_2p31 [6,43] [44] 45 [] [(44,.op (.mkFn 37 [.t 0] []) [.t 6])] [.tt 6,sb []]
def X12_2t31:=hS R12_2t31 R12_2p31 R12_2t32 [6,43] [44] [1,6,12,13,14,15,16,17,18,19,20,21,22,23,24,25,26,27,28,29,30,31,32,33,34,35,36,37,38,39,40,41,42,43,44,45,46,47]
def X12_2t32:=hP R12_2t32 R12_2t33 [44] [1,6,12,13,14,15,16,17,18,19,20,21,22,23,24,25,26,27,28,29,30,31,32,33,34,35,36,37,38,39,40,41,42,43,44,45,46,47] ⟨none,.mapUpd (.int .u8) (.t 12) (.c (.s (.int .u8 16))) (.t 44),none⟩
def T12_2t33:=hT R12_2t33 [1,6,12,13,14,15,16,17,18,19,20,21,22,23,24,25,26,27,28,29,30,31,32,33,34,35,36,37,38,39,40,41,42,43,44,45,46,47] [7] 48 [] [(7,.op (.mapGet (.int .u8) (.s .nilFunc) (.t 0) (.t 1) false) [.t 12,.t 1])] [.tt 12,.tt 1,sb [],sb []]
def X12_2t33:=hL R12_2t33 [1,6,12,13,14,15,16,17,18,19,20,21,22,23,24,25,26,27,28,29,30,31,32,33,34,35,36,37,38,39,40,41,42,43,44,45,46,47] [7]
def R12_3:LO:=[oM 48 7,⟨some 49,.eqNil .f false (.t 48),none⟩]
def T12_3:=hT R12_3 [48] [49] 50 [] [(49,.op (.eqNil .f false (.t 0)) [.t 7])] [.tt 7,sb []]
def R12_4t2:LO:=[⟨some 5,.move (.c (.s (.bool false))),none⟩]
def R12_4t1:LO:=⟨none,.store 3 (.t 4) (.t 50),none⟩ :: R12_4t2
def R12_4p0:LO:=[⟨some 50,.build [.s (.int .i64 0),.s (.int .i64 0),.s (.int .i64 0)] [(0,1),(1,1),(2,1)] [],none⟩]
def R12_4:LO:=R12_4p0 ++ R12_4t1
def T12_4p0:=hT R12_4p0 [7,49] [50] 51 [] [(50,.op (.build [.s (.int .i64 0),.s (.int .i64 0),.s (.int .i64 0)] [(0,1),(1,1),(2,1)] []) [])] [sb []]
def X12_4:=hS R12_4 R12_4p0 R12_4t1 [7,49] [50] [7,49,50]
def X12_4t1:=hP R12_4t1 R12_4t2 [50] [7,49,50] ⟨none,.store 3 (.t 4) (.t 50),none⟩
def T12_4t2:=hT R12_4t2 [7,49,50] [5] 6 [] [(5,.c (.s (.bool false)))] [.cc (.s (.bool false))]
def X12_4t2:=hL R12_4t2 [7,49,50] [5]
def R12_5t4:LO:=[oM 5 54]
def R12_5t3:LO:=⟨none,.store 3 (.t 4) (.t 53),none⟩ :: R12_5t4
def R12_5p2:LO:=[⟨some 53,.extract (.t 52) 0,none⟩,⟨some 54,.extract (.t 52) 1,none⟩]
def R12_5t2:LO:=R12_5p2 ++ R12_5t3
def R12_5t1:LO:=⟨some 52,.call (.t 51) [],none⟩ :: R12_5t2
def R12_5p0:LO:=[oM 51 7]
def R12_5:LO:=R12_5p0 ++ R12_5t1
def T12_5p0:=hT R12_5p0 [7,49] [51] 52 [] [(51,.t 7)] [.tt 7]
def X12_5:=hS R12_5 R12_5p0 R12_5t1 [7,49] [51] [7,49,51,52,53,54]
def X12_5t1:=hP R12_5t1 R12_5t2 [51] [7,49,51,52,53,54] ⟨some 52,.call (.t 51) [],none⟩
def T12_5p2:=hT R12_5p2 [52] [53,54] 55 [] [(53,.op (.extract (.t 0) 0) [.t 52]),(54,.op (.extract (.t 0) 1) [.t 52])] [sb [],.sub 1 [] []]
def X12_5t2:=hS R12_5t2 R12_5p2 R12_5t3 [52] [53,54] [7,49,51,52,53,54]
def X12_5t3:=hP R12_5t3 R12_5t4 [53] [7,49,51,52,53,54] ⟨none,.store 3 (.t 4) (.t 53),none⟩
def T12_5t4:=hT R12_5t4 [7,49,51,52,53,54] [5] 6 [] [(5,.t 54)] [.tt 54]
def X12_5t4:=hL R12_5t4 [7,49,51,52,53,54] [5]
def s_f12:ACFun:={ ntmps:=55,results:=[.cell 4 true 3,.tmp 5],body:=
 (.seq (.region R12_0 [] K12_0)
 (.seq (.region R12_1 [] [2,8,9,10,11])
 (.seq (.region R12_2 [] [1,6,12,13,14,15,16,17,18,19,20,21,22,23,24,25,26,27,28,29,30,31,32,33,34,35,36,37,38,39,40,41,42,43,44,45,46,47])
 (.seq (.seq (.regionE R12_3 [48] [49])
 (.cond (.t 49)
 (.seq (.region R12_4 [] [7,49,50])
 .ret)
 .skip))
 (.seq (.region R12_5 [] [7,49,51,52,53,54])
 .ret))))) }
theorem s_f12_first:firstOk (List.range' 2 (s_f12.ntmps - 2)) s_f12.body=true:=by kernel_rfl
abbrev k_f55:Nat:=55
def K55_0:List Nat:=[0,1,5,6,7,8,9]
def A55_0_0:=hQ K55_0 0
def A55_0_1:=hQ K55_0 1
def A55_0_2:=hK K55_0 2
def A55_0_3:=hK K55_0 3
def A55_0_4:=hK K55_0 4
def A55_0_5:=hQ K55_0 5
def R55_0t2:LO:=[⟨some 5,.move (.c (.s (.bool false))),none⟩]
def R55_0t1:LO:=⟨some 4,.box (.t 1),none⟩ :: R55_0t2
def R55_0:LO:=⟨some 3,.box (.t 0),none⟩ :: R55_0t1
def X55_0:=hP R55_0 R55_0t1 [0,4,5,6,7,8,9] K55_0 ⟨some 3,.box (.t 0),none⟩
def X55_0t1:=hP R55_0t1 R55_0t2 [1] K55_0 ⟨some 4,.box (.t 1),none⟩
def T55_0t2:=hT R55_0t2 K55_0 [] 6 [] [] [.cc (.s (.bool false))]
def X55_0t2:=hL R55_0t2 K55_0 []
def R55_1t2:LO:=[oM 5 9]
def R55_1t1:LO:=⟨some 9,.call (.c (.fn 39 [] [])) [.t 7,.t 8],none⟩ :: R55_1t2
def R55_1p0:LO:=[oF 6 7 4,oL 7 6,⟨some 8,.mkFn 56 [] [.t 2,.t 3],none⟩]
def R55_1:LO:=R55_1p0 ++ R55_1t1
def T55_1p0:=hT R55_1p0 [2,3,4,6] [7,8] 9 [] [(7,.op (.load false 1 (.t 0)) [.op (.fieldAddr 7 (.t 0)) [.t 4]]),(8,.op (.mkFn 56 [] [.t 0,.t 1]) [.t 2,.t 3])] [sb [0],sb [],.sub 1 [] []]
def X55_1:=hS R55_1 R55_1p0 R55_1t1 [2,3,4,6] [7,8] [2,3,4,6,7,8,9]
def X55_1t1:=hP R55_1t1 R55_1t2 [7,8] [2,3,4,6,7,8,9] ⟨some 9,.call (.c (.fn 39 [] [])) [.t 7,.t 8],none⟩
def T55_1t2:=hT R55_1t2 [2,3,4,6,7,8,9] [5] 6 [] [(5,.t 9)] [.tt 9]
def X55_1t2:=hL R55_1t2 [2,3,4,6,7,8,9] [5]
def s_f55:ACFun:={ ntmps:=10,results:=[.tmp 5],body:=
 (.seq (.region R55_0 [] K55_0)
 (.seq (.region R55_1 [] [2,3,4,6,7,8,9])
 .ret)) }
theorem s_f55_first:firstOk (List.range' 3 (s_f55.ntmps - 3)) s_f55.body=true:=by kernel_rfl
abbrev k_f56:Nat:=56
def K56_0:List Nat:=[0] ++ List.range' 4 14
def A56_0_0:=hQ K56_0 0
def A56_0_1:=hK K56_0 1
def A56_0_2:=hK K56_0 2
def A56_0_3:=hK K56_0 3
def A56_0_4:=hQ K56_0 4
def R56_0t1:LO:=[⟨some 4,.move (.c (.s (.bool false))),none⟩]
def R56_0:LO:=⟨some 3,.box (.t 0),none⟩ :: R56_0t1
def X56_0:=hP R56_0 R56_0t1 [0,4,5,6,7,8,9,10,11,12,13,14,15,16,17] K56_0 ⟨some 3,.box (.t 0),none⟩
def T56_0t1:=hT R56_0t1 K56_0 [] 5 [] [] [.cc (.s (.bool false))]
def X56_0t1:=hL R56_0t1 K56_0 []
def R56_1t2:LO:=[⟨some 17,.un .not (.t 16),none⟩,oM 4 17]
def R56_1t1:LO:=⟨some 16,.call (.c (.fn 57 [] [])) [.t 14,.t 15],none⟩ :: R56_1t2
def R56_1p0:LO:=[oL 5 1,⟨some 6,.nilCheck (.t 5),none⟩,oF 7 0 6,oF 8 0 7,oL 9 8,oF 10 0 2,oL 11 10,⟨some 12,.indexAddr 3 (.t 9) (.t 11),none⟩,oF 13 2 12,oL 14 13,⟨some 15,.mkFn 58 [] [.t 3],none⟩]
def R56_1:LO:=R56_1p0 ++ R56_1t1
def T56_1p0:=hT R56_1p0 [1,2,3,5,6,7,8,9,10,11,12,13] [14,15] 16 [] [(14,.op (.load false 1 (.t 0)) [.op (.fieldAddr 2 (.t 0)) [.op (.indexAddr 3 (.t 0) (.t 1)) [.op (.load false 1 (.t 0)) [.op (.fieldAddr 0 (.t 0)) [.op (.fieldAddr 0 (.t 0)) [.op (.nilCheck (.t 0)) [.op (.load false 1 (.t 0)) [.t 1]]]]],.op (.load false 1 (.t 0)) [.op (.fieldAddr 0 (.t 0)) [.t 2]]]]]),(15,.op (.mkFn 58 [] [.t 0]) [.t 3])] [sb [0,0,0,0,0,0,0],sb [0,0,0,0,0,0],sb [0,0,0,0,0],sb [0,0,0,0],sb [0,0,0],sb [0,0,1,0],sb [0,0,1],sb [0,0],sb [0],sb [],.sub 1 [] []]
def X56_1:=hS R56_1 R56_1p0 R56_1t1 [1,2,3,5,6,7,8,9,10,11,12,13] [14,15] [1,2,3,5,6,7,8,9,10,11,12,13,14,15,16,17]
def X56_1t1:=hP R56_1t1 R56_1t2 [14,15] [1,2,3,5,6,7,8,9,10,11,12,13,14,15,16,17] ⟨some 16,.call (.c (.fn 57 [] [])) [.t 14,.t 15],none⟩
def T56_1t2:=hT R56_1t2 [1,2,3,5,6,7,8,9,10,11,12,13,14,15,16,17] [4] 18 [] [(4,.op (.un .not (.t 0)) [.t 16])] [sb [],sb []]
def X56_1t2:=hL R56_1t2 [1,2,3,5,6,7,8,9,10,11,12,13,14,15,16,17] [4]
def s_f56:ACFun:={ ntmps:=18,results:=[.tmp 4],body:=
 (.seq (.region R56_0 [] K56_0)
 (.seq (.region R56_1 [] [1,2,3,5,6,7,8,9,10,11,12,13,14,15,16,17])
 .ret)) }
theorem s_f56_first:firstOk (List.range' 3 (s_f56.ntmps - 3)) s_f56.body=true:=by kernel_rfl
abbrev k_f57:Nat:=57
def K57_0:List Nat:=List.range' 2 7
theorem s_f57_r0_kT:killV K57_0 (startV 9 [] 2)=[]:=by kernel_rfl
def s_f57_r0_kA0:=hK K57_0 0
def s_f57_r0_kA1:=hK K57_0 1
def R57_0:LO:=[⟨some 4,.move (.c (.s (.bool false))),none⟩]
def T57_0:=hT R57_0 K57_0 [] 5 [] [] [.cc (.s (.bool false))]
def R57_1t2:LO:=[⟨some 8,.bin .geq (.t 7) (.c (.s (.int .i64 0))),none⟩,oM 4 8]
def R57_1t1:LO:=⟨some 7,.call (.c (.fn 69 [] [])) [.t 5,.t 6],none⟩ :: R57_1t2
def R57_1p0:LO:=[oM 5 0,oM 6 1]
def R57_1:LO:=R57_1p0 ++ R57_1t1
def T57_1p0:=hT R57_1p0 [0,1] [5,6] 7 [] [(5,.t 0),(6,.t 1)] [.tt 0,.tt 1]
def X57_1:=hS R57_1 R57_1p0 R57_1t1 [0,1] [5,6] [0,1,5,6,7,8]
def X57_1t1:=hP R57_1t1 R57_1t2 [5,6] [0,1,5,6,7,8] ⟨some 7,.call (.c (.fn 69 [] [])) [.t 5,.t 6],none⟩
def T57_1t2:=hT R57_1t2 [0,1,5,6,7,8] [4] 9 [] [(4,.op (.bin .geq (.t 0) (.c (.s (.int .i64 0)))) [.t 7,.c (.s (.int .i64 0))])] [sb [],sb []]
def X57_1t2:=hL R57_1t2 [0,1,5,6,7,8] [4]
def s_f57:ACFun:={ ntmps:=9,results:=[.tmp 4],body:=
 (.seq (.regionE R57_0 K57_0 [])
 (.seq (.region R57_1 [] [0,1,5,6,7,8])
 .ret)) }
abbrev k_f58:Nat:=58
def K58_0:List Nat:=[0,3,4,5,6,7]
def A58_0_0:=hQ K58_0 0
def A58_0_1:=hK K58_0 1
def A58_0_2:=hK K58_0 2
def A58_0_3:=hQ K58_0 3
def R58_0t1:LO:=[⟨some 3,.move (.c (.s (.bool false))),none⟩]
def R58_0:LO:=⟨some 2,.box (.t 0),none⟩ :: R58_0t1
def X58_0:=hP R58_0 R58_0t1 [0,3,4,5,6,7] K58_0 ⟨some 2,.box (.t 0),none⟩
def T58_0t1:=hT R58_0t1 K58_0 [] 4 [] [] [.cc (.s (.bool false))]
def X58_0t1:=hL R58_0t1 K58_0 []
def R58_1:LO:=[oF 4 0 2,oL 5 4,oL 6 1,⟨some 7,.bin .eql (.t 5) (.t 6),none⟩,oM 3 7]
def T58_1:=hT R58_1 [1,2,4,5,6,7] [3] 8 [] [(3,.op (.bin .eql (.t 0) (.t 1)) [.op (.load false 1 (.t 0)) [.op (.fieldAddr 0 (.t 0)) [.t 2]],.op (.load false 1 (.t 0)) [.t 1]])] [sb [0,0],sb [0],sb [1],sb [],sb []]
def s_f58:ACFun:={ ntmps:=8,results:=[.tmp 3],body:=
 (.seq (.region R58_0 [] K58_0)
 (.seq (.regionE R58_1 [1,2,4,5,6,7] [3])
 .ret)) }
theorem s_f58_first:firstOk (List.range' 2 (s_f58.ntmps - 2)) s_f58.body=true:=by kernel_rfl
abbrev k_f59:Nat:=59
def K59_0:List Nat:=[0,1,3] ++ List.range' 5 16
def A59_0_0:=hQ K59_0 0
def A59_0_1:=hQ K59_0 1
def A59_0_2:=hK K59_0 2
def A59_0_3:=hQ K59_0 3
def A59_0_4:=hK K59_0 4
def A59_0_5:=hQ K59_0 5
def R59_0t2:LO:=[⟨some 5,.move (.c (.s (.bool false))),none⟩]
def R59_0t1:LO:=⟨some 4,.box (.t 1),none⟩ :: R59_0t2
def R59_0:LO:=⟨some 3,.box (.t 0),none⟩ :: R59_0t1
def X59_0:=hP R59_0 R59_0t1 [0,3,4,5,6,7,8,9,10,11,12,13,14,15,16,17,18,19,20] K59_0 ⟨some 3,.box (.t 0),none⟩
def X59_0t1:=hP R59_0t1 R59_0t2 [1] K59_0 ⟨some 4,.box (.t 1),none⟩
def T59_0t2:=hT R59_0t2 K59_0 [] 6 [] [] [.cc (.s (.bool false))]
def X59_0t2:=hL R59_0t2 K59_0 []
def R59_1t5:LO:=[⟨some 19,.bin .lss (.t 18) (.c (.s (.int .i64 0))),some (14,true)⟩,⟨some 20,.pick (.t 14) (.t 19) (.c (.s (.bool false))),none⟩,oM 5 20]
def R59_1t4:LO:=⟨some 18,.call (.c (.fn 45 [] [])) [.t 15,.t 17],some (14,true)⟩ :: R59_1t5
def R59_1t3:LO:=gL 17 16 14 true :: R59_1t4
def R59_1t2:LO:=gF 16 5 4 14 true :: R59_1t3
def R59_1t1:LO:=gL 15 2 14 true :: R59_1t2
def R59_1p0:LO:=[oF 6 0 4,oL 7 6,⟨some 8,.bin .eql (.t 7) (.c (.s (.int .u8 10))),none⟩,oM 9 8,gF 10 0 4 9 false,gL 11 10 9 false,⟨some 12,.bin .eql (.t 11) (.c (.s (.int .u8 4))),some (9,false)⟩,⟨some 13,.pick (.t 9) (.c (.s (.bool true))) (.t 12),none⟩,oM 14 13]
def R59_1:LO:=R59_1p0 ++ R59_1t1
def T59_1p0:=hT R59_1p0 [6,7,8,9,10,11,12,13] [14] 15 [] [(14,.pick (.op (.bin .eql (.t 0) (.c (.s (.int .u8 10)))) [.op (.load false 1 (.t 0)) [.op (.fieldAddr 0 (.t 0)) [.t 4]],.c (.s (.int .u8 10))]) (.c (.s (.bool true))) (.op (.bin .eql (.t 0) (.c (.s (.int .u8 4)))) [.op (.load false 1 (.t 0)) [.op (.fieldAddr 0 (.t 0)) [.t 4]],.c (.s (.int .u8 4))]))] [sb [0,0,0],sb [0,0],sb [0],sb [0],.sub 0 [2,0,0] [9],.sub 0 [2,0] [9],.sub 0 [2] [9],sb [],sb []]
def X59_1:=hS R59_1 R59_1p0 R59_1t1 [6,7,8,9,10,11,12,13] [14] [2,4,6,7,8,9,10,11,12,13,14,15,16,17,18,19,20]
def X59_1t1:=hP R59_1t1 R59_1t2 [2] [2,4,6,7,8,9,10,11,12,13,14,15,16,17,18,19,20] ⟨some 15,.load false 1 (.t 2),some (14,true)⟩
def X59_1t2:=hP R59_1t2 R59_1t3 [4] [2,4,6,7,8,9,10,11,12,13,14,15,16,17,18,19,20] ⟨some 16,.fieldAddr 5 (.t 4),some (14,true)⟩
def X59_1t3:=hP R59_1t3 R59_1t4 [16] [2,4,6,7,8,9,10,11,12,13,14,15,16,17,18,19,20] ⟨some 17,.load false 1 (.t 16),some (14,true)⟩
def X59_1t4:=hP R59_1t4 R59_1t5 [15,17] [2,4,6,7,8,9,10,11,12,13,14,15,16,17,18,19,20] ⟨some 18,.call (.c (.fn 45 [] [])) [.t 15,.t 17],some (14,true)⟩
def T59_1t5:=hT R59_1t5 [2,4,6,7,8,9,10,11,12,13,14,15,16,17,18,19,20] [5] 21 [] [(5,.pick (.t 14) (.op (.bin .lss (.t 0) (.c (.s (.int .i64 0)))) [.t 18,.c (.s (.int .i64 0))]) (.c (.s (.bool false))))] [.sub 0 [1] [14],sb [],sb []]
def X59_1t5:=hL R59_1t5 [2,4,6,7,8,9,10,11,12,13,14,15,16,17,18,19,20] [5]
def s_f59:ACFun:={ ntmps:=21,results:=[.tmp 5],body:=
 (.seq (.region R59_0 [] K59_0)
 (.seq (.region R59_1 [] [2,4,6,7,8,9,10,11,12,13,14,15,16,17,18,19,20])
 .ret)) }
theorem s_f59_first:firstOk (List.range' 3 (s_f59.ntmps - 3)) s_f59.body=true:=by kernel_rfl
abbrev k_f60:Nat:=60
def K60_0:List Nat:=[0,1,3] ++ List.range' 5 29
def A60_0_0:=hQ K60_0 0
def A60_0_1:=hQ K60_0 1
def A60_0_2:=hK K60_0 2
def A60_0_3:=hQ K60_0 3
def A60_0_4:=hK K60_0 4
def A60_0_5:=hQ K60_0 5
def R60_0t2:LO:=[⟨some 5,.move (.c (.s (.bool false))),none⟩]
def R60_0t1:LO:=⟨some 4,.box (.t 1),none⟩ :: R60_0t2
def R60_0:LO:=⟨some 3,.box (.t 0),none⟩ :: R60_0t1
def X60_0:=hP R60_0 R60_0t1 [0,3,4,5,6,7,8,9,10,11,12,13,14,15,16,17,18,19,20,21,22,23,24,25,26,27,28,29,30,31,32,33] K60_0 ⟨some 3,.box (.t 0),none⟩
def X60_0t1:=hP R60_0t1 R60_0t2 [1] K60_0 ⟨some 4,.box (.t 1),none⟩
def T60_0t2:=hT R60_0t2 K60_0 [] 6 [] [] [.cc (.s (.bool false))]
def X60_0t2:=hL R60_0t2 K60_0 []
def R60_1t2:LO:=[oM 6 10]
def R60_1t1:LO:=⟨some 10,.call (.c (.fn 45 [] [])) [.t 7,.t 9],none⟩ :: R60_1t2
def R60_1p0:LO:=[oL 7 2,oF 8 5 4,oL 9 8]
def R60_1:LO:=R60_1p0 ++ R60_1t1
def T60_1p0:=hT R60_1p0 [8] [7,9] 10 [] [(7,.op (.load false 1 (.t 0)) [.t 2]),(9,.op (.load false 1 (.t 0)) [.op (.fieldAddr 5 (.t 0)) [.t 4]])] [sb [],.sub 1 [0] [],.sub 1 [] []]
def X60_1:=hS R60_1 R60_1p0 R60_1t1 [8] [7,9] [7,8,9,10]
def X60_1t1:=hP R60_1t1 R60_1t2 [7,9] [7,8,9,10] ⟨some 10,.call (.c (.fn 45 [] [])) [.t 7,.t 9],none⟩
def T60_1t2:=hT R60_1t2 [7,8,9,10] [6] 7 [] [(6,.t 10)] [.tt 10]
def X60_1t2:=hL R60_1t2 [7,8,9,10] [6]
def R60_2:LO:=[oF 11 0 4,oL 12 11,⟨some 13,.bin .eql (.t 12) (.c (.s (.int .u8 10))),none⟩,oM 14 13,gM 15 6 14 true,⟨some 16,.bin .geq (.t 15) (.c (.s (.int .i64 0))),some (14,true)⟩,⟨some 17,.pick (.t 14) (.t 16) (.c (.s (.bool false))),none⟩,oM 18 17,gL 19 2 18 true,⟨some 20,.nilCheck (.t 19),some (18,true)⟩,gF 21 0 20 18 true,gF 22 0 21 18 true,gL 23 22 18 true,gM 24 6 18 true,⟨some 25,.indexAddr 3 (.t 23) (.t 24),some (18,true)⟩,gF 26 1 25 18 true,gL 27 26 18 true,⟨some 28,.lenS .s (.t 27),some (18,true)⟩,gF 29 6 4 18 true,gL 30 29 18 true,⟨some 31,.lenS .s (.t 30),some (18,true)⟩,⟨some 32,.bin .neq (.t 28) (.t 31),some (18,true)⟩,⟨some 33,.pick (.t 18) (.t 32) (.c (.s (.bool false))),none⟩,oM 5 33]
def T60_2:=hT R60_2 [2,4,6,11,12,13,14,15,16,17,18,19,20,21,22,23,24,25,26,27,28,29,30,31,32,33] [5] 34 [] [(5,.pick (.pick (.op (.bin .eql (.t 0) (.c (.s (.int .u8 10)))) [.op (.load false 1 (.t 0)) [.op (.fieldAddr 0 (.t 0)) [.t 4]],.c (.s (.int .u8 10))]) (.op (.bin .geq (.t 0) (.c (.s (.int .i64 0)))) [.t 6,.c (.s (.int .i64 0))]) (.c (.s (.bool false)))) (.op (.bin .neq (.t 0) (.t 1)) [.op (.lenS .s (.t 0)) [.op (.load false 1 (.t 0)) [.op (.fieldAddr 1 (.t 0)) [.op (.indexAddr 3 (.t 0) (.t 1)) [.op (.load false 1 (.t 0)) [.op (.fieldAddr 0 (.t 0)) [.op (.fieldAddr 0 (.t 0)) [.op (.nilCheck (.t 0)) [.op (.load false 1 (.t 0)) [.t 2]]]]],.t 6]]]],.op (.lenS .s (.t 0)) [.op (.load false 1 (.t 0)) [.op (.fieldAddr 6 (.t 0)) [.t 4]]]]) (.c (.s (.bool false))))] [sb [0,0,0,0],sb [0,0,0],sb [0,0],sb [0,0],.sub 0 [0,1,0] [14],.sub 0 [0,1] [14],sb [0],sb [0],.sub 0 [1,0,0,0,0,0,0,0,0,0] [18],.sub 0 [1,0,0,0,0,0,0,0,0] [18],.sub 0 [1,0,0,0,0,0,0,0] [18],.sub 0 [1,0,0,0,0,0,0] [18],.sub 0 [1,0,0,0,0,0] [18],.sub 0 [1,0,0,0,0,1] [18],.sub 0 [1,0,0,0,0] [18],.sub 0 [1,0,0,0] [18],.sub 0 [1,0,0] [18],.sub 0 [1,0] [18],.sub 0 [1,1,0,0] [18],.sub 0 [1,1,0] [18],.sub 0 [1,1] [18],.sub 0 [1] [18],sb [],sb []]
def s_f60:ACFun:={ ntmps:=34,results:=[.tmp 5],body:=
 (.seq (.region R60_0 [] K60_0)
 (.seq (.region R60_1 [] [7,8,9,10])
 (.seq (.regionE R60_2 [2,4,6,11,12,13,14,15,16,17,18,19,20,21,22,23,24,25,26,27,28,29,30,31,32,33] [5])
 .ret))) }
theorem s_f60_first:firstOk (List.range' 3 (s_f60.ntmps - 3)) s_f60.body=true:=by kernel_rfl
abbrev k_f61:Nat:=61
def K61_0:List Nat:=List.range' 2 6
theorem s_f61_r0_kT:killV K61_0 (startV 8 [] 2)=[]:=by kernel_rfl
def s_f61_r0_kA0:=hK K61_0 0
def s_f61_r0_kA1:=hK K61_0 1
def R61_0:LO:=[⟨some 3,.move (.c (.s (.bool false))),none⟩]
def T61_0:=hT R61_0 K61_0 [] 4 [] [] [.cc (.s (.bool false))]
def R61_1:LO:=[oL 4 1,oM 5 0,⟨some 6,.mapGet .string (.s (.bool false)) (.t 4) (.t 5) false,none⟩,⟨some 7,.un .not (.t 6),none⟩,oM 3 7]
def T61_1:=hT R61_1 [0,1,4,5,6,7] [3] 8 [] [(3,.op (.un .not (.t 0)) [.op (.mapGet .string (.s (.bool false)) (.t 0) (.t 1) false) [.op (.load false 1 (.t 0)) [.t 1],.t 0]])] [sb [0,0],.tt 0,sb [0],sb [],sb []]
def s_f61:ACFun:={ ntmps:=8,results:=[.tmp 3],body:=
 (.seq (.regionE R61_0 K61_0 [])
 (.seq (.regionE R61_1 [0,1,4,5,6,7] [3])
 .ret)) }
abbrev k_f62:Nat:=62
def K62_0:List Nat:=List.range' 2 17
theorem s_f62_r0_kT:killV K62_0 (startV 19 [] 2)=[]:=by kernel_rfl
def s_f62_r0_kA0:=hK K62_0 0
def s_f62_r0_kA1:=hK K62_0 1
def R62_0:LO:=[⟨some 4,.move (.c (.s (.int .i64 0))),none⟩]
def T62_0:=hT R62_0 K62_0 [] 5 [] [] [.cc (.s (.int .i64 0))]
def R62_1:LO:=[oM 6 0,⟨some 7,.lenS .s (.t 6),none⟩,⟨some 8,.move (.c (.s (.int .i64 0))),none⟩]
def T62_1:=hT R62_1 [6] [7,8] 9 [] [(7,.op (.lenS .s (.t 0)) [.t 0]),(8,.c (.s (.int .i64 0)))] [.tt 0,sb [],.cc (.s (.int .i64 0))]
def R62_2:LO:=[⟨some 9,.bin .lss (.t 8) (.t 7),none⟩]
def T62_2:=hT R62_2 [] [9] 10 [] [(9,.op (.bin .lss (.t 0) (.t 1)) [.t 8,.t 7])] [sb []]
def R62_3:LO:=[oM 10 8,oM 5 10]
def T62_3:=hT R62_3 [9,10] [5] 11 [] [(5,.t 8)] [.tt 8,.tt 8]
def R62_4t1:LO:=[⟨some 16,.call (.t 11) [.t 15],none⟩]
def R62_4p0:LO:=[oM 11 1,oM 12 0,oM 13 5,⟨some 14,.indexAddr 1 (.t 12) (.t 13),none⟩,oL 15 14]
def R62_4:LO:=R62_4p0 ++ R62_4t1
def T62_4p0:=hT R62_4p0 [12,13,14] [11,15] 16 [] [(11,.t 1),(15,.op (.load false 1 (.t 0)) [.op (.indexAddr 1 (.t 0) (.t 1)) [.t 0,.t 5]])] [.tt 1,.tt 0,.tt 5,.sub 1 [0] [],.sub 1 [] []]
def X62_4:=hS R62_4 R62_4p0 R62_4t1 [12,13,14] [11,15] [11,12,13,14,15]
def X62_4t1:=hX R62_4t1 [11,12,13,14,15] [⟨some 16,.call (.t 11) [.t 15],none⟩]
def R62_5:LO:=[oM 17 5,oM 4 17]
def T62_5:=hT R62_5 [0,1,5,7,8,16,17] [4] 18 [] [(4,.t 5)] [.tt 5,.tt 5]
def R62_6:LO:=[⟨some 18,.bin .add (.t 8) (.c (.s (.int .i64 1))),none⟩,oM 8 18]
def T62_6:=hT R62_6 [5,16,18] [8] 19 [] [(8,.op (.bin .add (.t 0) (.c (.s (.int .i64 1)))) [.t 8,.c (.s (.int .i64 1))])] [sb [],sb []]
def s_f62_l0_b:ACode:=
 (.seq (.regionE R62_2 [] [9])
 (.seq (.cond (.t 9)
 .skip
 (.exit 0))
 (.seq (.block 1
 (.seq (.regionE R62_3 [9,10] [5])
 (.seq (.region R62_4 [] [11,12,13,14,15])
 (.cond (.t 16)
 (.seq (.regionE R62_5 [0,1,5,7,8,16,17] [4])
 .ret)
 .skip))))
 (.regionE R62_6 [5,16,18] [8]))))
def s_f62_l0:ACode:=s_f62_l0_b
def s_f62_l0_ev:=hE s_f62_l0 s_f62_l0_b
def R62_7:LO:=[⟨some 4,.move (.c (.s (.int .i64 (-1)))),none⟩]
def T62_7:=hT R62_7 [0,1,7,8,9] [4] 5 [] [(4,.c (.s (.int .i64 (-1))))] [.cc (.s (.int .i64 (-1)))]
def s_f62:ACFun:={ ntmps:=19,results:=[.tmp 4],body:=
 (.seq (.regionE R62_0 K62_0 [])
 (.seq (.seq (.regionE R62_1 [6] [7,8])
 (.block 0
 (.loop [] s_f62_l0)))
 (.seq (.regionE R62_7 [0,1,7,8,9] [4])
 .ret))) }
abbrev k_f63:Nat:=63
def K63_0:List Nat:=List.range' 2 17
theorem s_f63_r0_kT:killV K63_0 (startV 19 [] 2)=[]:=by kernel_rfl
def s_f63_r0_kA0:=hK K63_0 0
def s_f63_r0_kA1:=hK K63_0 1
def R63_0:LO:=[⟨some 3,.move (.c (.s (.bool false))),none⟩]
def T63_0:=hT R63_0 K63_0 [] 4 [] [] [.cc (.s (.bool false))]
def R63_1t3:LO:=[⟨some 9,.un .not (.t 8),some (6,true)⟩,⟨some 10,.pick (.t 6) (.t 9) (.c (.s (.bool false))),none⟩,oM 11 10,gL 12 1 11 true,gM 13 12 11 true,gM 14 0 13 true,⟨some 15,.bin .eql (.t 14) (.c (.s (.string ⟨#[110,117,108,108]⟩))),some (13,true)⟩,⟨some 16,.pick (.t 13) (.t 15) (.c (.s (.bool false))),some (11,true)⟩,⟨some 17,.un .not (.t 16),some (11,true)⟩,⟨some 18,.pick (.t 11) (.t 17) (.c (.s (.bool false))),none⟩,oM 3 18]
def R63_1t2:LO:=⟨some 8,.call (.c (.fn 7 [] [])) [.t 7],some (6,true)⟩ :: R63_1t3
def R63_1t1:LO:=gM 7 0 6 true :: R63_1t2
def R63_1p0:LO:=[oM 4 0,⟨some 5,.bin .neq (.t 4) (.c (.s (.string ⟨#[]⟩))),none⟩,oM 6 5]
def R63_1:LO:=R63_1p0 ++ R63_1t1
def T63_1p0:=hT R63_1p0 [4,5] [6] 7 [] [(6,.op (.bin .neq (.t 0) (.c (.s (.string ⟨#[]⟩)))) [.t 0,.c (.s (.string ⟨#[]⟩))])] [.tt 0,sb [],sb []]
def X63_1:=hS R63_1 R63_1p0 R63_1t1 [4,5] [6] [0,1,4,5,6,7,8,9,10,11,12,13,14,15,16,17,18]
def X63_1t1:=hP R63_1t1 R63_1t2 [] [0,1,4,5,6,7,8,9,10,11,12,13,14,15,16,17,18] ⟨some 7,.move (.t 0),some (6,true)⟩
def X63_1t2:=hP R63_1t2 R63_1t3 [7] [0,1,4,5,6,7,8,9,10,11,12,13,14,15,16,17,18] ⟨some 8,.call (.c (.fn 7 [] [])) [.t 7],some (6,true)⟩
def T63_1t3:=hT R63_1t3 [0,1,4,5,6,7,8,9,10,11,12,13,14,15,16,17,18] [3] 19 [] [(3,.pick (.pick (.t 6) (.op (.un .not (.t 0)) [.t 8]) (.c (.s (.bool false)))) (.op (.un .not (.t 0)) [.pick (.op (.load false 1 (.t 0)) [.t 1]) (.op (.bin .eql (.t 0) (.c (.s (.string ⟨#[110,117,108,108]⟩)))) [.t 0,.c (.s (.string ⟨#[110,117,108,108]⟩))]) (.c (.s (.bool false)))]) (.c (.s (.bool false))))] [.sub 0 [0,1] [6],sb [0],sb [0],.sub 0 [1,0,0] [11],.sub 0 [1,0,0] [11],.sub 0 [1,0,1,0] [11,13],.sub 0 [1,0,1] [11,13],.sub 0 [1,0] [11],.sub 0 [1] [11],sb [],sb []]
def X63_1t3:=hL R63_1t3 [0,1,4,5,6,7,8,9,10,11,12,13,14,15,16,17,18] [3]
def s_f63:ACFun:={ ntmps:=19,results:=[.tmp 3],body:=
 (.seq (.regionE R63_0 K63_0 [])
 (.seq (.region R63_1 [] [0,1,4,5,6,7,8,9,10,11,12,13,14,15,16,17,18])
 .ret)) }
abbrev k_f64:Nat:=64
def K64_0:List Nat:=List.range' 2 17
theorem s_f64_r0_kT:killV K64_0 (startV 19 [] 2)=[]:=by kernel_rfl
def s_f64_r0_kA0:=hK K64_0 0
def s_f64_r0_kA1:=hK K64_0 1
def R64_0:LO:=[⟨some 4,.move (.c (.s (.int .i64 0))),none⟩]
def T64_0:=hT R64_0 K64_0 [] 5 [] [] [.cc (.s (.int .i64 0))]
def R64_1:LO:=[oM 6 0,⟨some 7,.lenS .s (.t 6),none⟩,⟨some 8,.move (.c (.s (.int .i64 0))),none⟩]
def T64_1:=hT R64_1 [6] [7,8] 9 [] [(7,.op (.lenS .s (.t 0)) [.t 0]),(8,.c (.s (.int .i64 0)))] [.tt 0,sb [],.cc (.s (.int .i64 0))]
def R64_2:LO:=[⟨some 9,.bin .lss (.t 8) (.t 7),none⟩]
def T64_2:=hT R64_2 [] [9] 10 [] [(9,.op (.bin .lss (.t 0) (.t 1)) [.t 8,.t 7])] [sb []]
def R64_3:LO:=[oM 10 8,oM 5 10]
def T64_3:=hT R64_3 [9,10] [5] 11 [] [(5,.t 8)] [.tt 8,.tt 8]
def R64_4:LO:=[oM 11 1,oM 12 0,oM 13 5,⟨some 14,.indexAddr 1 (.t 12) (.t 13),none⟩,oL 15 14,⟨some 16,.bin .eql (.t 11) (.t 15),none⟩]
def T64_4:=hT R64_4 [11,12,13,14,15] [16] 17 [] [(16,.op (.bin .eql (.t 0) (.t 1)) [.t 1,.op (.load false 1 (.t 0)) [.op (.indexAddr 1 (.t 0) (.t 1)) [.t 0,.t 5]]])] [.tt 1,.tt 0,.tt 5,sb [1,0],sb [1],sb []]
def R64_5:LO:=[oM 17 5,oM 4 17]
def T64_5:=hT R64_5 [0,1,5,7,8,16,17] [4] 18 [] [(4,.t 5)] [.tt 5,.tt 5]
def R64_6:LO:=[⟨some 18,.bin .add (.t 8) (.c (.s (.int .i64 1))),none⟩,oM 8 18]
def T64_6:=hT R64_6 [5,16,18] [8] 19 [] [(8,.op (.bin .add (.t 0) (.c (.s (.int .i64 1)))) [.t 8,.c (.s (.int .i64 1))])] [sb [],sb []]
def s_f64_l0_b:ACode:=
 (.seq (.regionE R64_2 [] [9])
 (.seq (.cond (.t 9)
 .skip
 (.exit 0))
 (.seq (.block 1
 (.seq (.regionE R64_3 [9,10] [5])
 (.seq (.regionE R64_4 [11,12,13,14,15] [16])
 (.cond (.t 16)
 (.seq (.regionE R64_5 [0,1,5,7,8,16,17] [4])
 .ret)
 .skip))))
 (.regionE R64_6 [5,16,18] [8]))))
def s_f64_l0:ACode:=s_f64_l0_b
def s_f64_l0_ev:=hE s_f64_l0 s_f64_l0_b
def R64_7:LO:=[⟨some 4,.move (.c (.s (.int .i64 (-1)))),none⟩]
def T64_7:=hT R64_7 [0,1,7,8,9] [4] 5 [] [(4,.c (.s (.int .i64 (-1))))] [.cc (.s (.int .i64 (-1)))]
def s_f64:ACFun:={ ntmps:=19,results:=[.tmp 4],body:=
 (.seq (.regionE R64_0 K64_0 [])
 (.seq (.seq (.regionE R64_1 [6] [7,8])
 (.block 0
 (.loop [] s_f64_l0)))
 (.seq (.regionE R64_7 [0,1,7,8,9] [4])
 .ret))) }
abbrev k_f65:Nat:=65
def K65_0:List Nat:=List.range' 2 17
theorem s_f65_r0_kT:killV K65_0 (startV 19 [] 2)=[]:=by kernel_rfl
def s_f65_r0_kA0:=hK K65_0 0
def s_f65_r0_kA1:=hK K65_0 1
def R65_0:LO:=[⟨some 4,.move (.c (.s (.int .i64 0))),none⟩]
def T65_0:=hT R65_0 K65_0 [] 5 [] [] [.cc (.s (.int .i64 0))]
def R65_1:LO:=[oM 6 0,⟨some 7,.lenS .s (.t 6),none⟩,⟨some 8,.move (.c (.s (.int .i64 0))),none⟩]
def T65_1:=hT R65_1 [6] [7,8] 9 [] [(7,.op (.lenS .s (.t 0)) [.t 0]),(8,.c (.s (.int .i64 0)))] [.tt 0,sb [],.cc (.s (.int .i64 0))]
def R65_2:LO:=[⟨some 9,.bin .lss (.t 8) (.t 7),none⟩]
def T65_2:=hT R65_2 [] [9] 10 [] [(9,.op (.bin .lss (.t 0) (.t 1)) [.t 8,.t 7])] [sb []]
def R65_3:LO:=[oM 10 8,oM 5 10]
def T65_3:=hT R65_3 [9,10] [5] 11 [] [(5,.t 8)] [.tt 8,.tt 8]
def R65_4t1:LO:=[⟨some 16,.call (.t 11) [.t 15],none⟩]
def R65_4p0:LO:=[oM 11 1,oM 12 0,oM 13 5,⟨some 14,.indexAddr 3 (.t 12) (.t 13),none⟩,⟨some 15,.load true 3 (.t 14),none⟩]
def R65_4:LO:=R65_4p0 ++ R65_4t1
def T65_4p0:=hT R65_4p0 [12,13,14] [11,15] 16 [] [(11,.t 1),(15,.op (.load true 3 (.t 0)) [.op (.indexAddr 3 (.t 0) (.t 1)) [.t 0,.t 5]])] [.tt 1,.tt 0,.tt 5,.sub 1 [0] [],.sub 1 [] []]
def X65_4:=hS R65_4 R65_4p0 R65_4t1 [12,13,14] [11,15] [11,12,13,14,15]
def X65_4t1:=hX R65_4t1 [11,12,13,14,15] [⟨some 16,.call (.t 11) [.t 15],none⟩]
def R65_5:LO:=[oM 17 5,oM 4 17]
def T65_5:=hT R65_5 [0,1,5,7,8,16,17] [4] 18 [] [(4,.t 5)] [.tt 5,.tt 5]
def R65_6:LO:=[⟨some 18,.bin .add (.t 8) (.c (.s (.int .i64 1))),none⟩,oM 8 18]
def T65_6:=hT R65_6 [5,16,18] [8] 19 [] [(8,.op (.bin .add (.t 0) (.c (.s (.int .i64 1)))) [.t 8,.c (.s (.int .i64 1))])] [sb [],sb []]
def s_f65_l0_b:ACode:=
 (.seq (.regionE R65_2 [] [9])
 (.seq (.cond (.t 9)
 .skip
 (.exit 0))
 (.seq (.block 1
 (.seq (.regionE R65_3 [9,10] [5])
 (.seq (.region R65_4 [] [11,12,13,14,15])
 (.cond (.t 16)
 (.seq (.regionE R65_5 [0,1,5,7,8,16,17] [4])
 .ret)
 .skip))))
 (.regionE R65_6 [5,16,18] [8]))))
def s_f65_l0:ACode:=s_f65_l0_b
def s_f65_l0_ev:=hE s_f65_l0 s_f65_l0_b
def R65_7:LO:=[⟨some 4,.move (.c (.s (.int .i64 (-1)))),none⟩]
def T65_7:=hT R65_7 [0,1,7,8,9] [4] 5 [] [(4,.c (.s (.int .i64 (-1))))] [.cc (.s (.int .i64 (-1)))]
def s_f65:ACFun:={ ntmps:=19,results:=[.tmp 4],body:=
 (.seq (.regionE R65_0 K65_0 [])
 (.seq (.seq (.regionE R65_1 [6] [7,8])
 (.block 0
 (.loop [] s_f65_l0)))
 (.seq (.regionE R65_7 [0,1,7,8,9] [4])
 .ret))) }
abbrev k_f66:Nat:=66
def K66_0:List Nat:=[0,3,4,5,6,7]
def A66_0_0:=hQ K66_0 0
def A66_0_1:=hK K66_0 1
def A66_0_2:=hK K66_0 2
def A66_0_3:=hQ K66_0 3
def R66_0t1:LO:=[⟨some 3,.move (.c (.s (.bool false))),none⟩]
def R66_0:LO:=⟨some 2,.box (.t 0),none⟩ :: R66_0t1
def X66_0:=hP R66_0 R66_0t1 [0,3,4,5,6,7] K66_0 ⟨some 2,.box (.t 0),none⟩
def T66_0t1:=hT R66_0t1 K66_0 [] 4 [] [] [.cc (.s (.bool false))]
def X66_0t1:=hL R66_0t1 K66_0 []
def R66_1:LO:=[oF 4 0 2,oL 5 4,oL 6 1,⟨some 7,.bin .eql (.t 5) (.t 6),none⟩,oM 3 7]
def T66_1:=hT R66_1 [1,2,4,5,6,7] [3] 8 [] [(3,.op (.bin .eql (.t 0) (.t 1)) [.op (.load false 1 (.t 0)) [.op (.fieldAddr 0 (.t 0)) [.t 2]],.op (.load false 1 (.t 0)) [.t 1]])] [sb [0,0],sb [0],sb [1],sb [],sb []]
def s_f66:ACFun:={ ntmps:=8,results:=[.tmp 3],body:=
 (.seq (.region R66_0 [] K66_0)
 (.seq (.regionE R66_1 [1,2,4,5,6,7] [3])
 .ret)) }
theorem s_f66_first:firstOk (List.range' 2 (s_f66.ntmps - 2)) s_f66.body=true:=by kernel_rfl
abbrev k_f67:Nat:=67
def K67_0:List Nat:=[0,2,3]
def A67_0_0:=hQ K67_0 0
def A67_0_1:=hK K67_0 1
def A67_0_2:=hQ K67_0 2
def R67_0t1:LO:=[⟨some 2,.move (.c (.s .nilFunc)),none⟩]
def R67_0:LO:=⟨some 1,.box (.t 0),none⟩ :: R67_0t1
def X67_0:=hP R67_0 R67_0t1 [0,2,3] K67_0 ⟨some 1,.box (.t 0),none⟩
def T67_0t1:=hT R67_0t1 K67_0 [] 3 [] [] [.cc (.s .nilFunc)]
def X67_0t1:=hL R67_0t1 K67_0 []
def R67_1:LO:=[⟨some 3,.mkFn 70 [] [.t 1],none⟩,oM 2 3]
def T67_1:=hT R67_1 [1,3] [2] 4 [] [(2,.op (.mkFn 70 [] [.t 0]) [.t 1])] [sb [],sb []]
def s_f67:ACFun:={ ntmps:=4,results:=[.tmp 2],body:=
 (.seq (.region R67_0 [] K67_0)
 (.seq (.regionE R67_1 [1,3] [2])
 .ret)) }
theorem s_f67_first:firstOk (List.range' 1 (s_f67.ntmps - 1)) s_f67.body=true:=by kernel_rfl
abbrev k_f68:Nat:=68
def K68_0:List Nat:=List.range' 2 17
theorem s_f68_r0_kT:killV K68_0 (startV 19 [] 2)=[]:=by kernel_rfl
def s_f68_r0_kA0:=hK K68_0 0
def s_f68_r0_kA1:=hK K68_0 1
def R68_0:LO:=[⟨some 4,.move (.c (.s (.int .i64 0))),none⟩]
def T68_0:=hT R68_0 K68_0 [] 5 [] [] [.cc (.s (.int .i64 0))]
def R68_1:LO:=[oM 6 0,⟨some 7,.lenS .s (.t 6),none⟩,⟨some 8,.move (.c (.s (.int .i64 0))),none⟩]
def T68_1:=hT R68_1 [6] [7,8] 9 [] [(7,.op (.lenS .s (.t 0)) [.t 0]),(8,.c (.s (.int .i64 0)))] [.tt 0,sb [],.cc (.s (.int .i64 0))]
def R68_2:LO:=[⟨some 9,.bin .lss (.t 8) (.t 7),none⟩]
def T68_2:=hT R68_2 [] [9] 10 [] [(9,.op (.bin .lss (.t 0) (.t 1)) [.t 8,.t 7])] [sb []]
def R68_3:LO:=[oM 10 8,oM 5 10]
def T68_3:=hT R68_3 [9,10] [5] 11 [] [(5,.t 8)] [.tt 8,.tt 8]
def R68_4t1:LO:=[⟨some 16,.call (.t 11) [.t 15],none⟩]
def R68_4p0:LO:=[oM 11 1,oM 12 0,oM 13 5,⟨some 14,.indexAddr 8 (.t 12) (.t 13),none⟩,⟨some 15,.load true 8 (.t 14),none⟩]
def R68_4:LO:=R68_4p0 ++ R68_4t1
def T68_4p0:=hT R68_4p0 [12,13,14] [11,15] 16 [] [(11,.t 1),(15,.op (.load true 8 (.t 0)) [.op (.indexAddr 8 (.t 0) (.t 1)) [.t 0,.t 5]])] [.tt 1,.tt 0,.tt 5,.sub 1 [0] [],.sub 1 [] []]
def X68_4:=hS R68_4 R68_4p0 R68_4t1 [12,13,14] [11,15] [11,12,13,14,15]
def X68_4t1:=hX R68_4t1 [11,12,13,14,15] [⟨some 16,.call (.t 11) [.t 15],none⟩]
def R68_5:LO:=[oM 17 5,oM 4 17]
def T68_5:=hT R68_5 [0,1,5,7,8,16,17] [4] 18 [] [(4,.t 5)] [.tt 5,.tt 5]
def R68_6:LO:=[⟨some 18,.bin .add (.t 8) (.c (.s (.int .i64 1))),none⟩,oM 8 18]
def T68_6:=hT R68_6 [5,16,18] [8] 19 [] [(8,.op (.bin .add (.t 0) (.c (.s (.int .i64 1)))) [.t 8,.c (.s (.int .i64 1))])] [sb [],sb []]
def s_f68_l0_b:ACode:=
 (.seq (.regionE R68_2 [] [9])
 (.seq (.cond (.t 9)
 .skip
 (.exit 0))
 (.seq (.block 1
 (.seq (.regionE R68_3 [9,10] [5])
 (.seq (.region R68_4 [] [11,12,13,14,15])
 (.cond (.t 16)
 (.seq (.regionE R68_5 [0,1,5,7,8,16,17] [4])
 .ret)
 .skip))))
 (.regionE R68_6 [5,16,18] [8]))))
def s_f68_l0:ACode:=s_f68_l0_b
def s_f68_l0_ev:=hE s_f68_l0 s_f68_l0_b
def R68_7:LO:=[⟨some 4,.move (.c (.s (.int .i64 (-1)))),none⟩]
def T68_7:=hT R68_7 [0,1,7,8,9] [4] 5 [] [(4,.c (.s (.int .i64 (-1))))] [.cc (.s (.int .i64 (-1)))]
def s_f68:ACFun:={ ntmps:=19,results:=[.tmp 4],body:=
 (.seq (.regionE R68_0 K68_0 [])
 (.seq (.seq (.regionE R68_1 [6] [7,8])
 (.block 0
 (.loop [] s_f68_l0)))
 (.seq (.regionE R68_7 [0,1,7,8,9] [4])
 .ret))) }
abbrev k_f69:Nat:=69
def K69_0:List Nat:=List.range' 2 17
theorem s_f69_r0_kT:killV K69_0 (startV 19 [] 2)=[]:=by kernel_rfl
def s_f69_r0_kA0:=hK K69_0 0
def s_f69_r0_kA1:=hK K69_0 1
def R69_0:LO:=[⟨some 4,.move (.c (.s (.int .i64 0))),none⟩]
def T69_0:=hT R69_0 K69_0 [] 5 [] [] [.cc (.s (.int .i64 0))]
def R69_1:LO:=[oM 6 0,⟨some 7,.lenS .s (.t 6),none⟩,⟨some 8,.move (.c (.s (.int .i64 0))),none⟩]
def T69_1:=hT R69_1 [6] [7,8] 9 [] [(7,.op (.lenS .s (.t 0)) [.t 0]),(8,.c (.s (.int .i64 0)))] [.tt 0,sb [],.cc (.s (.int .i64 0))]
def R69_2:LO:=[⟨some 9,.bin .lss (.t 8) (.t 7),none⟩]
def T69_2:=hT R69_2 [] [9] 10 [] [(9,.op (.bin .lss (.t 0) (.t 1)) [.t 8,.t 7])] [sb []]
def R69_3:LO:=[oM 10 8,oM 5 10]
def T69_3:=hT R69_3 [9,10] [5] 11 [] [(5,.t 8)] [.tt 8,.tt 8]
def R69_4t1:LO:=[⟨some 16,.call (.t 11) [.t 15],none⟩]
def R69_4p0:LO:=[oM 11 1,oM 12 0,oM 13 5,⟨some 14,.indexAddr 2 (.t 12) (.t 13),none⟩,⟨some 15,.load true 2 (.t 14),none⟩]
def R69_4:LO:=R69_4p0 ++ R69_4t1
def T69_4p0:=hT R69_4p0 [12,13,14] [11,15] 16 [] [(11,.t 1),(15,.op (.load true 2 (.t 0)) [.op (.indexAddr 2 (.t 0) (.t 1)) [.t 0,.t 5]])] [.tt 1,.tt 0,.tt 5,.sub 1 [0] [],.sub 1 [] []]
def X69_4:=hS R69_4 R69_4p0 R69_4t1 [12,13,14] [11,15] [11,12,13,14,15]
def X69_4t1:=hX R69_4t1 [11,12,13,14,15] [⟨some 16,.call (.t 11) [.t 15],none⟩]
def R69_5:LO:=[oM 17 5,oM 4 17]
def T69_5:=hT R69_5 [0,1,5,7,8,16,17] [4] 18 [] [(4,.t 5)] [.tt 5,.tt 5]
def R69_6:LO:=[⟨some 18,.bin .add (.t 8) (.c (.s (.int .i64 1))),none⟩,oM 8 18]
def T69_6:=hT R69_6 [5,16,18] [8] 19 [] [(8,.op (.bin .add (.t 0) (.c (.s (.int .i64 1)))) [.t 8,.c (.s (.int .i64 1))])] [sb [],sb []]
def s_f69_l0_b:ACode:=
 (.seq (.regionE R69_2 [] [9])
 (.seq (.cond (.t 9)
 .skip
 (.exit 0))
 (.seq (.block 1
 (.seq (.regionE R69_3 [9,10] [5])
 (.seq (.region R69_4 [] [11,12,13,14,15])
 (.cond (.t 16)
 (.seq (.regionE R69_5 [0,1,5,7,8,16,17] [4])
 .ret)
 .skip))))
 (.regionE R69_6 [5,16,18] [8]))))
def s_f69_l0:ACode:=s_f69_l0_b
def s_f69_l0_ev:=hE s_f69_l0 s_f69_l0_b
def R69_7:LO:=[⟨some 4,.move (.c (.s (.int .i64 (-1)))),none⟩]
def T69_7:=hT R69_7 [0,1,7,8,9] [4] 5 [] [(4,.c (.s (.int .i64 (-1))))] [.cc (.s (.int .i64 (-1)))]
def s_f69:ACFun:={ ntmps:=19,results:=[.tmp 4],body:=
 (.seq (.regionE R69_0 K69_0 [])
 (.seq (.seq (.regionE R69_1 [6] [7,8])
 (.block 0
 (.loop [] s_f69_l0)))
 (.seq (.regionE R69_7 [0,1,7,8,9] [4])
 .ret))) }
abbrev k_f70:Nat:=70
def K70_0:List Nat:=List.range' 1 12 ++ List.range' 16 31
theorem s_f70_r0_kT:killV K70_0 (startV 47 [] 2)=[(13,und),(14,und),(15,und)]:=by kernel_rfl
def s_f70_r0_kA0:=hK K70_0 0
def s_f70_r0_kA1:=hQ K70_0 1
def R70_0:LO:=[oL 9 1,⟨some 10,.nilCheck (.t 9),none⟩,oF 11 0 10,oF 12 0 11,oL 13 12,⟨some 14,.lenS .s (.t 13),none⟩,⟨some 15,.move (.c (.s (.int .i64 0))),none⟩]
def T70_0:=hT R70_0 K70_0 [13,14,15] 16 [] [(13,.op (.load false 1 (.t 0)) [.op (.fieldAddr 0 (.t 0)) [.op (.fieldAddr 0 (.t 0)) [.op (.nilCheck (.t 0)) [.op (.load false 1 (.t 0)) [.t 1]]]]]),(14,.op (.lenS .s (.t 0)) [.op (.load false 1 (.t 0)) [.op (.fieldAddr 0 (.t 0)) [.op (.fieldAddr 0 (.t 0)) [.op (.nilCheck (.t 0)) [.op (.load false 1 (.t 0)) [.t 1]]]]]]),(15,.c (.s (.int .i64 0)))] [sb [0,0,0,0],sb [0,0,0],sb [0,0],sb [0],sb [],.sub 1 [] [],.cc (.s (.int .i64 0))]
def R70_1:LO:=[⟨some 16,.bin .lss (.t 15) (.t 14),none⟩]
def T70_1:=hT R70_1 [] [16] 17 [] [(16,.op (.bin .lss (.t 0) (.t 1)) [.t 15,.t 14])] [sb []]
def R70_2t3:LO:=[⟨none,.store 3 (.t 4) (.t 19),none⟩]
def R70_2p2:LO:=[oM 3 17]
def R70_2t2:LO:=R70_2p2 ++ R70_2t3
def R70_2t1:LO:=⟨some 4,.alloc [.s (.string ⟨#[]⟩),.s (.slice none 0 0),.s (.slice none 0 0)],none⟩ :: R70_2t2
def R70_2p0:LO:=[oM 17 15,⟨some 18,.indexAddr 3 (.t 13) (.t 15),none⟩,⟨some 19,.load true 3 (.t 18),none⟩]
def R70_2:LO:=R70_2p0 ++ R70_2t1
def T70_2p0:=hT R70_2p0 [16,18] [17,19] 20 [] [(17,.t 15),(19,.op (.load true 3 (.t 0)) [.op (.indexAddr 3 (.t 0) (.t 1)) [.t 13,.t 15]])] [.tt 15,.sub 1 [0] [],.sub 1 [] []]
def X70_2:=hS R70_2 R70_2p0 R70_2t1 [16,18] [17,19] [16,17,18,19]
def X70_2t1:=hP R70_2t1 R70_2t2 [] [16,17,18,19] ⟨some 4,.alloc [.s (.string ⟨#[]⟩),.s (.slice none 0 0),.s (.slice none 0 0)],none⟩
def T70_2p2:=hT R70_2p2 [17] [3] 4 [] [(3,.t 17)] [.tt 17]
def X70_2t2:=hS R70_2t2 R70_2p2 R70_2t3 [17] [3] [16,17,18,19]
def X70_2t3:=hX R70_2t3 [16,17,18,19] [⟨none,.store 3 (.t 4) (.t 19),none⟩]
def R70_3:LO:=[oF 20 2 4,oL 21 20,⟨some 22,.lenS .s (.t 21),none⟩,⟨some 23,.move (.c (.s (.int .i64 0))),none⟩]
def T70_3:=hT R70_3 [4,20] [21,22,23] 24 [] [(21,.op (.load false 1 (.t 0)) [.op (.fieldAddr 2 (.t 0)) [.t 4]]),(22,.op (.lenS .s (.t 0)) [.op (.load false 1 (.t 0)) [.op (.fieldAddr 2 (.t 0)) [.t 4]]]),(23,.c (.s (.int .i64 0)))] [sb [0],sb [],.sub 1 [] [],.cc (.s (.int .i64 0))]
def R70_4:LO:=[⟨some 24,.bin .lss (.t 23) (.t 22),none⟩]
def T70_4:=hT R70_4 [] [24] 25 [] [(24,.op (.bin .lss (.t 0) (.t 1)) [.t 23,.t 22])] [sb []]
def R70_5t3:LO:=[⟨none,.store 2 (.t 6) (.t 27),none⟩]
def R70_5p2:LO:=[oM 5 25]
def R70_5t2:LO:=R70_5p2 ++ R70_5t3
def R70_5t1:LO:=⟨some 6,.alloc [.s (.string ⟨#[]⟩),.s (.slice none 0 0)],none⟩ :: R70_5t2
def R70_5p0:LO:=[oM 25 23,⟨some 26,.indexAddr 2 (.t 21) (.t 23),none⟩,⟨some 27,.load true 2 (.t 26),none⟩]
def R70_5:LO:=R70_5p0 ++ R70_5t1
def T70_5p0:=hT R70_5p0 [24,26] [25,27] 28 [] [(25,.t 23),(27,.op (.load true 2 (.t 0)) [.op (.indexAddr 2 (.t 0) (.t 1)) [.t 21,.t 23]])] [.tt 23,.sub 1 [0] [],.sub 1 [] []]
def X70_5:=hS R70_5 R70_5p0 R70_5t1 [24,26] [25,27] [24,25,26,27]
def X70_5t1:=hP R70_5t1 R70_5t2 [] [24,25,26,27] ⟨some 6,.alloc [.s (.string ⟨#[]⟩),.s (.slice none 0 0)],none⟩
def T70_5p2:=hT R70_5p2 [25] [5] 6 [] [(5,.t 25)] [.tt 25]
def X70_5t2:=hS R70_5t2 R70_5p2 R70_5t3 [25] [5] [24,25,26,27]
def X70_5t3:=hX R70_5t3 [24,25,26,27] [⟨none,.store 2 (.t 6) (.t 27),none⟩]
def R70_6:LO:=[oF 28 1 6,oL 29 28,⟨some 30,.lenS .s (.t 29),none⟩,⟨some 31,.move (.c (.s (.int .i64 0))),none⟩]
def T70_6:=hT R70_6 [6,28] [29,30,31] 32 [] [(29,.op (.load false 1 (.t 0)) [.op (.fieldAddr 1 (.t 0)) [.t 6]]),(30,.op (.lenS .s (.t 0)) [.op (.load false 1 (.t 0)) [.op (.fieldAddr 1 (.t 0)) [.t 6]]]),(31,.c (.s (.int .i64 0)))] [sb [0],sb [],.sub 1 [] [],.cc (.s (.int .i64 0))]
def R70_7:LO:=[⟨some 32,.bin .lss (.t 31) (.t 30),none⟩]
def T70_7:=hT R70_7 [] [32] 33 [] [(32,.op (.bin .lss (.t 0) (.t 1)) [.t 31,.t 30])] [sb []]
def R70_8t3:LO:=[⟨none,.store 8 (.t 8) (.t 35),none⟩]
def R70_8p2:LO:=[oM 7 33]
def R70_8t2:LO:=R70_8p2 ++ R70_8t3
def R70_8t1:LO:=⟨some 8,.alloc [.s (.int .u8 0),.s (.string ⟨#[]⟩),.s (.string ⟨#[]⟩),.s (.string ⟨#[]⟩),.s (.int .i64 0),.s (.string ⟨#[]⟩),.s (.slice none 0 0),.s (.slice none 0 0)],none⟩ :: R70_8t2
def R70_8p0:LO:=[oM 33 31,⟨some 34,.indexAddr 8 (.t 29) (.t 31),none⟩,⟨some 35,.load true 8 (.t 34),none⟩]
def R70_8:LO:=R70_8p0 ++ R70_8t1
def T70_8p0:=hT R70_8p0 [32,34] [33,35] 36 [] [(33,.t 31),(35,.op (.load true 8 (.t 0)) [.op (.indexAddr 8 (.t 0) (.t 1)) [.t 29,.t 31]])] [.tt 31,.sub 1 [0] [],.sub 1 [] []]
def X70_8:=hS R70_8 R70_8p0 R70_8t1 [32,34] [33,35] [32,33,34,35]
def X70_8t1:=hP R70_8t1 R70_8t2 [] [32,33,34,35] ⟨some 8,.alloc [.s (.int .u8 0),.s (.string ⟨#[]⟩),.s (.string ⟨#[]⟩),.s (.string ⟨#[]⟩),.s (.int .i64 0),.s (.string ⟨#[]⟩),.s (.slice none 0 0),.s (.slice none 0 0)],none⟩
def T70_8p2:=hT R70_8p2 [33] [7] 8 [] [(7,.t 33)] [.tt 33]
def X70_8t2:=hS R70_8t2 R70_8p2 R70_8t3 [33] [7] [32,33,34,35]
def X70_8t3:=hX R70_8t3 [32,33,34,35] [⟨none,.store 8 (.t 8) (.t 35),none⟩]
def R70_9t2:LO:=[⟨some 43,.un .not (.t 42),none⟩]
def R70_9t1:LO:=⟨some 42,.call (.t 36) [.t 40,.t 41],none⟩ :: R70_9t2
def R70_9p0:LO:=[oM 36 0,oM 37 3,oM 38 5,oM 39 7,⟨some 40,.build [.s (.int .i64 0),.s (.int .i64 0),.s (.int .i64 0)] [(0,1),(1,1),(2,1)] [(0,.t 37),(1,.t 38),(2,.t 39)],none⟩,⟨some 41,.load true 8 (.t 8),none⟩]
def R70_9:LO:=R70_9p0 ++ R70_9t1
def T70_9p0:=hT R70_9p0 [7,8,37,38,39] [36,40,41] 42 [] [(36,.t 0),(40,.op (.build [.s (.int .i64 0),.s (.int .i64 0),.s (.int .i64 0)] [(0,1),(1,1),(2,1)] [(0,.t 0),(1,.t 1),(2,.t 2)]) [.t 3,.t 5,.t 7]),(41,.op (.load true 8 (.t 0)) [.t 8])] [.tt 0,.tt 3,.tt 5,.tt 7,.sub 1 [] [],.sub 2 [] []]
def X70_9:=hS R70_9 R70_9p0 R70_9t1 [7,8,37,38,39] [36,40,41] [7,8,36,37,38,39,40,41,42]
def X70_9t1:=hP R70_9t1 R70_9t2 [36,40,41] [7,8,36,37,38,39,40,41,42] ⟨some 42,.call (.t 36) [.t 40,.t 41],none⟩
def T70_9t2:=hT R70_9t2 [7,8,36,37,38,39,40,41,42] [43] 44 [] [(43,.op (.un .not (.t 0)) [.t 42])] [sb []]
def X70_9t2:=hL R70_9t2 [7,8,36,37,38,39,40,41,42] [43]
def R70_10:LO:=[⟨some 44,.bin .add (.t 31) (.c (.s (.int .i64 1))),none⟩,oM 31 44]
def T70_10:=hT R70_10 [43,44] [31] 45 [] [(31,.op (.bin .add (.t 0) (.c (.s (.int .i64 1)))) [.t 31,.c (.s (.int .i64 1))])] [sb [],sb []]
def s_f70_l0_b:ACode:=
 (.seq (.regionE R70_7 [] [32])
 (.seq (.cond (.t 32)
 .skip
 (.exit 4))
 (.seq (.block 5
 (.seq (.region R70_8 [] [32,33,34,35])
 (.seq (.region R70_9 [] [7,8,36,37,38,39,40,41,42])
 (.cond (.t 43)
 .ret
 .skip))))
 (.regionE R70_10 [43,44] [31]))))
def s_f70_l0:ACode:=s_f70_l0_b
def s_f70_l0_ev:=hE s_f70_l0 s_f70_l0_b
def R70_11:LO:=[⟨some 45,.bin .add (.t 23) (.c (.s (.int .i64 1))),none⟩,oM 23 45]
def T70_11:=hT R70_11 [5,29,30,31,32,45] [23] 46 [] [(23,.op (.bin .add (.t 0) (.c (.s (.int .i64 1)))) [.t 23,.c (.s (.int .i64 1))])] [sb [],sb []]
def s_f70_l1_b:ACode:=
 (.seq (.regionE R70_4 [] [24])
 (.seq (.cond (.t 24)
 .skip
 (.exit 2))
 (.seq (.block 3
 (.seq (.region R70_5 [] [24,25,26,27])
 (.seq (.regionE R70_6 [6,28] [29,30,31])
 (.block 4
 (.loop [] s_f70_l0)))))
 (.regionE R70_11 [5,29,30,31,32,45] [23]))))
def s_f70_l1:ACode:=s_f70_l1_b
def s_f70_l1_ev:=hE s_f70_l1 s_f70_l1_b
def R70_12:LO:=[⟨some 46,.bin .add (.t 15) (.c (.s (.int .i64 1))),none⟩,oM 15 46]
def T70_12:=hT R70_12 [3,21,22,23,24,46] [15] 47 [] [(15,.op (.bin .add (.t 0) (.c (.s (.int .i64 1)))) [.t 15,.c (.s (.int .i64 1))])] [sb [],sb []]
def s_f70_l2_b:ACode:=
 (.seq (.regionE R70_1 [] [16])
 (.seq (.cond (.t 16)
 .skip
 (.exit 0))
 (.seq (.block 1
 (.seq (.region R70_2 [] [16,17,18,19])
 (.seq (.regionE R70_3 [4,20] [21,22,23])
 (.block 2
 (.loop [] s_f70_l1)))))
 (.regionE R70_12 [3,21,22,23,24,46] [15]))))
def s_f70_l2:ACode:=s_f70_l2_b
def s_f70_l2_ev:=hE s_f70_l2 s_f70_l2_b
def s_f70:ACFun:={ ntmps:=47,results:=[],body:=
 (.seq (.regionE R70_0 K70_0 [13,14,15])
 (.block 0
 (.loop [] s_f70_l2))) }
def a_f11:=ai X11_0 (ai X11_0t1 (ai A11_0_0 (ai A11_0_1 (ai A11_0_2 (ai T11_1 (ai T11_2 (ai T11_3p0 (ai X11_3 (ai X11_3t1 (ai T11_3p2 (ai X11_3t2 (ai X11_3t3 (ai X11_3t4 (ai T11_3t5 (ai X11_3t5 (ai T11_4 (ai T11_5p0 (ai X11_5 (ai X11_5t1 (ai T11_6 (ai s_f11_l0_ev (ai T11_7p0 (ai X11_7 (X11_7t1))))))))))))))))))))))))
def a_f12:=ai A12_0p0_0 (ai A12_0p0_1 (ai A12_0p0_2 (ai A12_0p0_4 (ai A12_0p0_5 (ai X12_0 (ai X12_0t1 (ai T12_0t2 (ai X12_0t2 (ai A12_0_0 (ai A12_0_1 (ai A12_0_2 (ai A12_0_4 (ai A12_0_5 (ai T12_1p0 (ai X12_1 (ai X12_1t1 (ai T12_1p2 (ai X12_1t2 (ai X12_1t3 (ai T12_1t4 (ai X12_1t4 (ai X12_2 (ai T12_2p1 (ai X12_2t1 (ai X12_2t2 (ai T12_2p3 (ai X12_2t3 (ai X12_2t4 (ai T12_2p5 (ai X12_2t5 (ai X12_2t6 (ai T12_2p7 (ai X12_2t7 (ai X12_2t8 (ai T12_2p9 (ai X12_2t9 (ai X12_2t10 (ai T12_2p11 (ai X12_2t11 (ai X12_2t12 (ai T12_2p13 (ai X12_2t13 (ai X12_2t14 (ai T12_2p15 (ai X12_2t15 (ai X12_2t16 (ai T12_2p17 (ai X12_2t17 (ai X12_2t18 (ai T12_2p19 (ai X12_2t19 (ai X12_2t20 (ai T12_2p21 (ai X12_2t21 (ai X12_2t22 (ai T12_2p23 (ai X12_2t23 (ai X12_2t24 (ai T12_2p25 (ai X12_2t25 (ai X12_2t26 (ai T12_2p27 (ai X12_2t27 (ai X12_2t28 (ai T12_2p29 (ai X12_2t29 (ai X12_2t30 (ai T12_2p31 (ai X12_2t31 (ai X12_2t32 (ai T12_2t33 (ai X12_2t33 (ai T12_3 (ai T12_4p0 (ai X12_4 (ai X12_4t1 (ai T12_4t2 (ai X12_4t2 (ai T12_5p0 (ai X12_5 (ai X12_5t1 (ai T12_5p2 (ai X12_5t2 (ai X12_5t3 (ai T12_5t4 (X12_5t4))))))))))))))))))))))))))))))))))))))))))))))))))))))))))))))))))))))))))))))))))))))
def a_f55:=ai X55_0 (ai X55_0t1 (ai T55_0t2 (ai X55_0t2 (ai A55_0_0 (ai A55_0_1 (ai A55_0_2 (ai A55_0_3 (ai A55_0_4 (ai A55_0_5 (ai T55_1p0 (ai X55_1 (ai X55_1t1 (ai T55_1t2 (X55_1t2))))))))))))))
def a_f56:=ai X56_0 (ai T56_0t1 (ai X56_0t1 (ai A56_0_0 (ai A56_0_1 (ai A56_0_2 (ai A56_0_3 (ai A56_0_4 (ai T56_1p0 (ai X56_1 (ai X56_1t1 (ai T56_1t2 (X56_1t2))))))))))))
def a_f57:=ai T57_0 (ai s_f57_r0_kT (ai s_f57_r0_kA0 (ai s_f57_r0_kA1 (ai T57_1p0 (ai X57_1 (ai X57_1t1 (ai T57_1t2 (X57_1t2))))))))
def a_f58:=ai X58_0 (ai T58_0t1 (ai X58_0t1 (ai A58_0_0 (ai A58_0_1 (ai A58_0_2 (ai A58_0_3 (T58_1)))))))
def a_f59:=ai X59_0 (ai X59_0t1 (ai T59_0t2 (ai X59_0t2 (ai A59_0_0 (ai A59_0_1 (ai A59_0_2 (ai A59_0_3 (ai A59_0_4 (ai A59_0_5 (ai T59_1p0 (ai X59_1 (ai X59_1t1 (ai X59_1t2 (ai X59_1t3 (ai X59_1t4 (ai T59_1t5 (X59_1t5)))))))))))))))))
def a_f60:=ai X60_0 (ai X60_0t1 (ai T60_0t2 (ai X60_0t2 (ai A60_0_0 (ai A60_0_1 (ai A60_0_2 (ai A60_0_3 (ai A60_0_4 (ai A60_0_5 (ai T60_1p0 (ai X60_1 (ai X60_1t1 (ai T60_1t2 (ai X60_1t2 (T60_2)))))))))))))))
def a_f61:=ai T61_0 (ai s_f61_r0_kT (ai s_f61_r0_kA0 (ai s_f61_r0_kA1 (T61_1))))
def a_f62:=ai T62_0 (ai s_f62_r0_kT (ai s_f62_r0_kA0 (ai s_f62_r0_kA1 (ai T62_1 (ai T62_2 (ai T62_3 (ai T62_4p0 (ai X62_4 (ai X62_4t1 (ai T62_5 (ai T62_6 (ai s_f62_l0_ev (T62_7)))))))))))))
def a_f63:=ai T63_0 (ai s_f63_r0_kT (ai s_f63_r0_kA0 (ai s_f63_r0_kA1 (ai T63_1p0 (ai X63_1 (ai X63_1t1 (ai X63_1t2 (ai T63_1t3 (X63_1t3)))))))))
def a_f64:=ai T64_0 (ai s_f64_r0_kT (ai s_f64_r0_kA0 (ai s_f64_r0_kA1 (ai T64_1 (ai T64_2 (ai T64_3 (ai T64_4 (ai T64_5 (ai T64_6 (ai s_f64_l0_ev (T64_7)))))))))))
def a_f65:=ai T65_0 (ai s_f65_r0_kT (ai s_f65_r0_kA0 (ai s_f65_r0_kA1 (ai T65_1 (ai T65_2 (ai T65_3 (ai T65_4p0 (ai X65_4 (ai X65_4t1 (ai T65_5 (ai T65_6 (ai s_f65_l0_ev (T65_7)))))))))))))
def a_f66:=ai X66_0 (ai T66_0t1 (ai X66_0t1 (ai A66_0_0 (ai A66_0_1 (ai A66_0_2 (ai A66_0_3 (T66_1)))))))
def a_f67:=ai X67_0 (ai T67_0t1 (ai X67_0t1 (ai A67_0_0 (ai A67_0_1 (ai A67_0_2 (T67_1))))))
def a_f68:=ai T68_0 (ai s_f68_r0_kT (ai s_f68_r0_kA0 (ai s_f68_r0_kA1 (ai T68_1 (ai T68_2 (ai T68_3 (ai T68_4p0 (ai X68_4 (ai X68_4t1 (ai T68_5 (ai T68_6 (ai s_f68_l0_ev (T68_7)))))))))))))
def a_f69:=ai T69_0 (ai s_f69_r0_kT (ai s_f69_r0_kA0 (ai s_f69_r0_kA1 (ai T69_1 (ai T69_2 (ai T69_3 (ai T69_4p0 (ai X69_4 (ai X69_4t1 (ai T69_5 (ai T69_6 (ai s_f69_l0_ev (T69_7)))))))))))))
def a_f70:=ai T70_0 (ai s_f70_r0_kT (ai s_f70_r0_kA0 (ai s_f70_r0_kA1 (ai T70_1 (ai T70_2p0 (ai X70_2 (ai X70_2t1 (ai T70_2p2 (ai X70_2t2 (ai X70_2t3 (ai T70_3 (ai T70_4 (ai T70_5p0 (ai X70_5 (ai X70_5t1 (ai T70_5p2 (ai X70_5t2 (ai X70_5t3 (ai T70_6 (ai T70_7 (ai T70_8p0 (ai X70_8 (ai X70_8t1 (ai T70_8p2 (ai X70_8t2 (ai X70_8t3 (ai T70_9p0 (ai X70_9 (ai X70_9t1 (ai T70_9t2 (ai X70_9t2 (ai T70_10 (ai s_f70_l0_ev (ai T70_11 (ai s_f70_l1_ev (ai T70_12 (s_f70_l2_ev)))))))))))))))))))))))))))))))))))))
theorem NA3_55:compK Try.prog PX0 55=some (false,s_f55.ntmps,s_f55.results,s_f55.body.bare):=by kernel_rfl
theorem NA3_56:compK Try.prog PX0 56=some (false,s_f56.ntmps,s_f56.results,s_f56.body.bare):=by kernel_rfl
theorem NA3_57:compK Try.prog PX0 57=some (false,s_f57.ntmps,s_f57.results,s_f57.body.bare):=by kernel_rfl
theorem NA3_58:compK Try.prog PX0 58=some (false,s_f58.ntmps,s_f58.results,s_f58.body.bare):=by kernel_rfl
theorem NA3_59:compK Try.prog PX0 59=some (false,s_f59.ntmps,s_f59.results,s_f59.body.bare):=by kernel_rfl
theorem NA3_60:compK Try.prog PX0 60=some (false,s_f60.ntmps,s_f60.results,s_f60.body.bare):=by kernel_rfl
theorem NA3_61:compK Try.prog PX0 61=some (false,s_f61.ntmps,s_f61.results,s_f61.body.bare):=by kernel_rfl
theorem NA3_62:compK Try.prog PX0 62=some (false,s_f62.ntmps,s_f62.results,s_f62.body.bare):=by kernel_rfl
theorem NA3_63:compK Try.prog PX0 63=some (false,s_f63.ntmps,s_f63.results,s_f63.body.bare):=by kernel_rfl
theorem NA3_64:compK Try.prog PX0 64=some (false,s_f64.ntmps,s_f64.results,s_f64.body.bare):=by kernel_rfl
theorem NA3_65:compK Try.prog PX0 65=some (false,s_f65.ntmps,s_f65.results,s_f65.body.bare):=by kernel_rfl
theorem NA3_66:compK Try.prog PX0 66=some (false,s_f66.ntmps,s_f66.results,s_f66.body.bare):=by kernel_rfl
theorem NA3_67:compK Try.prog PX0 67=some (false,s_f67.ntmps,s_f67.results,s_f67.body.bare):=by kernel_rfl
theorem NA3_68:compK Try.prog PX0 68=some (false,s_f68.ntmps,s_f68.results,s_f68.body.bare):=by kernel_rfl
theorem NA3_69:compK Try.prog PX0 69=some (false,s_f69.ntmps,s_f69.results,s_f69.body.bare):=by kernel_rfl
theorem NA3_70:compK Try.prog PX0 70=some (false,s_f70.ntmps,s_f70.results,s_f70.body.bare):=by kernel_rfl
theorem NA3_11:compK Try.prog PX0 11=some (false,s_f11.ntmps,s_f11.results,s_f11.body.bare):=by kernel_rfl
theorem NA3_12:compK Try.prog PX0 12=some (false,s_f12.ntmps,s_f12.results,s_f12.body.bare):=by kernel_rfl
end Go.Proofs.YtamlbkalopefgaaR
set_option maxRecDepth 100000
namespace Go.Proofs.YtamlbkalopefgaaR
open Go.AM
def idxP {α:Type} (p:α→Bool) (l:List α):Int:=match l.findIdx? p with | some i=>(i:Int) | none=>-1
theorem idxP_none {α:Type} {p:α→Bool} {l:List α} (d:α) (h:∀ i,i < l.length→p (l.getD i d)=false):idxP p l=-1:=by
 have:l.findIdx? p=none:=by
  rw [List.findIdx?_eq_none_iff]
  intro x hx
  obtain ⟨i,hi⟩:=List.mem_iff_getElem?.1 hx
  have:=h i (List.getElem?_eq_some_iff.1 hi).1
  rwa [getD_some hi] at this
 rw [idxP,this]
theorem idxP_some {α:Type} {p:α→Bool} {l:List α} (d:α) {i:Nat} (hi:i < l.length) (h1:p (l.getD i d)=true) (h2:∀ j,j < i→p (l.getD j d)=false):idxP p l=(i:Int):=by
 have:l.findIdx? p=some i:=by
  rw [List.findIdx?_eq_some_iff_getElem]
  refine ⟨hi,?_,fun j hj=>?_⟩
  ·have:=some_getD hi d
   rw [List.getElem?_eq_getElem hi] at this
   rw [Option.some.inj this];exact h1
  ·have hjl:j < l.length:=by omega
   have:=some_getD hjl d
   rw [List.getElem?_eq_getElem hjl] at this
   rw [Option.some.inj this,h2 j hj];simp
 rw [idxP,this]
theorem idxP_any {α:Type} (p:α→Bool) (l:List α):decide (idxP p l ≥ 0)=l.any p:=by
 unfold idxP
 cases h:l.findIdx? p with
 | none=>
   rw [List.findIdx?_eq_none_iff] at h
   symm
   rw [show decide ((-1:Int) ≥ 0)=false from rfl,List.any_eq_false]
   intro x hx
   rw [h x hx];simp
 | some i=>
   rw [List.findIdx?_eq_some_iff_getElem] at h
   obtain ⟨h1,h2,_⟩:=h
   have e1:l.any p=true:=List.any_eq_true.2 ⟨_,List.getElem_mem h1,h2⟩
   rw [e1]
   simp
section
variable {CT:Nat→Option CFun}
theorem ends_fun (hT:CT k_f51=some (.code s_f51)) (base:Nat) (H:Heap) (o:Int):callW CT (.fn k_f51 [] []) [.s (.int .u8 o)] base H=some (.s (.bool (o == 12 || o == 13 || o == 14)),H):=by
 refine callW_fn (c:=s_f51) hT (by simp [s_f51]) ?_
 simp only [s_f51,a_f51,aa,reduceIte,reduceCtorEq,Nat.reduceEqDiff,Nat.reduceLT,Nat.reduceLeDiff,Nat.reduceBEq,Nat.reduceAdd,Nat.reduceMul]
theorem calls_fun (hT:CT k_f46=some (.code s_f46)) (base:Nat) (H:Heap) (o:Int):callW CT (.fn k_f46 [] []) [.s (.int .u8 o)] base H=some (.s (.bool (o == 10 || o == 11)),H):=by
 refine callW_fn (c:=s_f46) hT (by simp [s_f46]) ?_
 simp only [s_f46,a_f46,aa,reduceIte,reduceCtorEq,Nat.reduceEqDiff,Nat.reduceLT,Nat.reduceLeDiff,Nat.reduceBEq,Nat.reduceAdd,Nat.reduceMul]
theorem idxS_fun (hT:CT k_f62=some (.code s_f62)) (base:Nat) (A:Heap) {v f:V} {l:List ByteArray} {p:ByteArray→Bool} (hv:Rd A v (l.map Sb)) (hw:Wide1 v) (hp:∀ x,x∈l→∀ D,Ext A D→∃ D',callW CT f [Sb x] base D=some (.s (.bool (p x)),D')∧Ext D D') (hl:l.length < 2 ^ 40):
 ∃ H',callW CT (.fn k_f62 [] []) [v,f] base A=some (Iz (idxP p l),H')∧Ext A H':=by
 have step:∀ i C,i < l.length→Ext A C→∃ C',(p (l.getD i ⟨#[]⟩)=false→itW (evC (callW CT) itW base s_f62_l0) [] A.length (frOf 19 [(0,v),(1,f),(7,Iz l.length),(8,Iz i)]) C=itW (evC (callW CT) itW base s_f62_l0) [] A.length (frOf 19 [(0,v),(1,f),(7,Iz l.length),(8,Iz (i+1:Nat))]) (trim A.length (frOf 19 [(0,v),(1,f),(7,Iz l.length),(8,Iz (i+1:Nat))]) C'))∧(p (l.getD i ⟨#[]⟩)=true→itW (evC (callW CT) itW base s_f62_l0) [] A.length (frOf 19 [(0,v),(1,f),(7,Iz l.length),(8,Iz i)]) C=some (.ret,frOf 19 [(4,Iz i)],trim A.length (frOf 19 [(4,Iz i)]) C'))∧Ext A C':=by
  intro i C hi hE
  have hlt':((i:Int) < (l.length:Int)):=by omega
  have hwk:=w64 (n:=i) (by omega)
  obtain ⟨a,a1,a2⟩:=Sb_at (hv.ext hE) hw hi
  obtain ⟨C',c1,c2⟩:=hp _ (List.mem_of_getElem? (some_getD hi ⟨#[]⟩)) C hE
  simp only [Sb] at c1
  refine ⟨C',fun hp=>?_,fun hp=>?_,hE.trans c2⟩
  ·rw [hp] at c1
   rw [itW_step]
   simp only [Iz,a_f62,s_f62_l0_b,aa,reduceIte,reduceCtorEq,Nat.reduceEqDiff,Nat.reduceLT,Nat.reduceLeDiff,Nat.reduceBEq,Nat.reduceAdd,Nat.reduceMul,hlt',a1,a2,c1,hwk]
  ·rw [hp] at c1
   rw [itW_step]
   simp only [Iz,a_f62,s_f62_l0_b,aa,reduceIte,reduceCtorEq,Nat.reduceEqDiff,Nat.reduceLT,Nat.reduceLeDiff,Nat.reduceBEq,Nat.reduceAdd,Nat.reduceMul,hlt',a1,a2,c1,hwk]
 have hlen:=Sb_len hv
 rcases it_findR l.length (fun i=>p (l.getD i ⟨#[]⟩)) (fun C=>Ext A C) (fun i C=>itW (evC (callW CT) itW base s_f62_l0) [] A.length (frOf 19 [(0,v),(1,f),(7,Iz l.length),(8,Iz i)]) C) (fun i C hi hp hE=>by obtain ⟨C',q1,_,q3⟩:=step i C hi hE;exact ⟨_,q1 hp,q3.trim (Nat.le_refl _) _⟩) A (Ext.refl A) with ⟨h1,C,h2,h3⟩ | ⟨i,C,hi,h1,h2,h3,h4⟩
 ·refine ⟨trim A.length (frOf 19 [(0,v),(1,f),(7,Iz l.length),(8,Iz l.length),(9,bl false)]) C,callW_fn (c:=s_f62) hT (by simp [s_f62]) ?_,h3.trim (Nat.le_refl _) _⟩
  rw [idxP_none ⟨#[]⟩ h1]
  have hend:itW (evC (callW CT) itW base s_f62_l0) [] A.length (frOf 19 [(0,v),(1,f),(7,Iz l.length),(8,Iz l.length)]) C=some (.ext 0,frOf 19 [(0,v),(1,f),(7,Iz l.length),(8,Iz l.length),(9,bl false)],trim A.length (frOf 19 [(0,v),(1,f),(7,Iz l.length),(8,Iz l.length),(9,bl false)]) C):=by
   rw [itW_step]
   simp only [Iz,bl,a_f62,s_f62_l0_b,aa,reduceIte,reduceCtorEq,Nat.reduceEqDiff,Nat.reduceLT,Nat.reduceLeDiff,Nat.reduceBEq,Nat.reduceAdd,Nat.reduceMul,Int.lt_irrefl]
  have h4:=h2.trans hend
  simp only [Iz,bl,cast0] at h4
  simp only [Iz,bl,s_f62,a_f62,s_f62_l0_b,aa,reduceIte,reduceCtorEq,Nat.reduceEqDiff,Nat.reduceLT,Nat.reduceLeDiff,Nat.reduceBEq,Nat.reduceAdd,Nat.reduceMul,hlen,h4]
 ·obtain ⟨C',_,q2,q3⟩:=step i C hi h4
  refine ⟨trim A.length (frOf 19 [(4,Iz i)]) C',callW_fn (c:=s_f62) hT (by simp [s_f62]) ?_,q3.trim (Nat.le_refl _) _⟩
  rw [idxP_some ⟨#[]⟩ hi h1 h2]
  have h5:=h3.trans (q2 h1)
  simp only [Iz,bl,cast0] at h5
  simp only [Iz,bl,s_f62,a_f62,s_f62_l0_b,aa,reduceIte,reduceCtorEq,Nat.reduceEqDiff,Nat.reduceLT,Nat.reduceLeDiff,Nat.reduceBEq,Nat.reduceAdd,Nat.reduceMul,hlen,h5]
theorem idxF_fun (hT:CT k_f65=some (.code s_f65)) (base:Nat) (A:Heap) {v f:V} {l:List FunD} {p:FunD→Bool} (hv:RdL 3 RdFun A v l) (hp:∀ (i:Nat) (x:FunD) (r:List V),l[i]?=some x→RdFun A r x→∀ D,Ext A D→∃ D',callW CT f [.agg r] base D=some (.s (.bool (p x)),D')∧Ext D D') (hl:l.length < 2 ^ 40):
 ∃ H',callW CT (.fn k_f65 [] []) [v,f] base A=some (Iz (idxP p l),H')∧Ext A H':=by
 have step:∀ i C,i < l.length→Ext A C→∃ C',(p (l.getD i fun0)=false→itW (evC (callW CT) itW base s_f65_l0) [] A.length (frOf 19 [(0,v),(1,f),(7,Iz l.length),(8,Iz i)]) C=itW (evC (callW CT) itW base s_f65_l0) [] A.length (frOf 19 [(0,v),(1,f),(7,Iz l.length),(8,Iz (i+1:Nat))]) (trim A.length (frOf 19 [(0,v),(1,f),(7,Iz l.length),(8,Iz (i+1:Nat))]) C'))∧(p (l.getD i fun0)=true→itW (evC (callW CT) itW base s_f65_l0) [] A.length (frOf 19 [(0,v),(1,f),(7,Iz l.length),(8,Iz i)]) C=some (.ret,frOf 19 [(4,Iz i)],trim A.length (frOf 19 [(4,Iz i)]) C'))∧Ext A C':=by
  intro i C hi hE
  have hlt':((i:Int) < (l.length:Int)):=by omega
  have hwk:=w64 (n:=i) (by omega)
  obtain ⟨a,r,a1,hr,rd,_⟩:=hv.at2 (some_getD hi fun0)
  have a2:=rd C hE
  obtain ⟨C',c1,c2⟩:=hp i _ r (some_getD hi fun0) hr C hE
  refine ⟨C',fun hp=>?_,fun hp=>?_,hE.trans c2⟩
  ·rw [hp] at c1
   rw [itW_step]
   simp only [Iz,a_f65,s_f65_l0_b,aa,reduceIte,reduceCtorEq,Nat.reduceEqDiff,Nat.reduceLT,Nat.reduceLeDiff,Nat.reduceBEq,Nat.reduceAdd,Nat.reduceMul,hlt',a1,a2,c1,hwk]
  ·rw [hp] at c1
   rw [itW_step]
   simp only [Iz,a_f65,s_f65_l0_b,aa,reduceIte,reduceCtorEq,Nat.reduceEqDiff,Nat.reduceLT,Nat.reduceLeDiff,Nat.reduceBEq,Nat.reduceAdd,Nat.reduceMul,hlt',a1,a2,c1,hwk]
 have hlen:=hv.len
 rcases it_findR l.length (fun i=>p (l.getD i fun0)) (fun C=>Ext A C) (fun i C=>itW (evC (callW CT) itW base s_f65_l0) [] A.length (frOf 19 [(0,v),(1,f),(7,Iz l.length),(8,Iz i)]) C) (fun i C hi hp hE=>by obtain ⟨C',q1,_,q3⟩:=step i C hi hE;exact ⟨_,q1 hp,q3.trim (Nat.le_refl _) _⟩) A (Ext.refl A) with ⟨h1,C,h2,h3⟩ | ⟨i,C,hi,h1,h2,h3,h4⟩
 ·refine ⟨trim A.length (frOf 19 [(0,v),(1,f),(7,Iz l.length),(8,Iz l.length),(9,bl false)]) C,callW_fn (c:=s_f65) hT (by simp [s_f65]) ?_,h3.trim (Nat.le_refl _) _⟩
  rw [idxP_none fun0 h1]
  have hend:itW (evC (callW CT) itW base s_f65_l0) [] A.length (frOf 19 [(0,v),(1,f),(7,Iz l.length),(8,Iz l.length)]) C=some (.ext 0,frOf 19 [(0,v),(1,f),(7,Iz l.length),(8,Iz l.length),(9,bl false)],trim A.length (frOf 19 [(0,v),(1,f),(7,Iz l.length),(8,Iz l.length),(9,bl false)]) C):=by
   rw [itW_step]
   simp only [Iz,bl,a_f65,s_f65_l0_b,aa,reduceIte,reduceCtorEq,Nat.reduceEqDiff,Nat.reduceLT,Nat.reduceLeDiff,Nat.reduceBEq,Nat.reduceAdd,Nat.reduceMul,Int.lt_irrefl]
  have h4:=h2.trans hend
  simp only [Iz,bl,cast0] at h4
  simp only [Iz,bl,s_f65,a_f65,s_f65_l0_b,aa,reduceIte,reduceCtorEq,Nat.reduceEqDiff,Nat.reduceLT,Nat.reduceLeDiff,Nat.reduceBEq,Nat.reduceAdd,Nat.reduceMul,hlen,h4]
 ·obtain ⟨C',_,q2,q3⟩:=step i C hi h4
  refine ⟨trim A.length (frOf 19 [(4,Iz i)]) C',callW_fn (c:=s_f65) hT (by simp [s_f65]) ?_,q3.trim (Nat.le_refl _) _⟩
  rw [idxP_some fun0 hi h1 h2]
  have h5:=h3.trans (q2 h1)
  simp only [Iz,bl,cast0] at h5
  simp only [Iz,bl,s_f65,a_f65,s_f65_l0_b,aa,reduceIte,reduceCtorEq,Nat.reduceEqDiff,Nat.reduceLT,Nat.reduceLeDiff,Nat.reduceBEq,Nat.reduceAdd,Nat.reduceMul,hlen,h5]
theorem idxB_fun (hT:CT k_f69=some (.code s_f69)) (base:Nat) (A:Heap) {v f:V} {l:List BlkD} {p:BlkD→Bool} (hv:RdL 2 RdBlk A v l) (hp:∀ (i:Nat) (x:BlkD) (r:List V),l[i]?=some x→RdBlk A r x→∀ D,Ext A D→∃ D',callW CT f [.agg r] base D=some (.s (.bool (p x)),D')∧Ext D D') (hl:l.length < 2 ^ 40):
 ∃ H',callW CT (.fn k_f69 [] []) [v,f] base A=some (Iz (idxP p l),H')∧Ext A H':=by
 have step:∀ i C,i < l.length→Ext A C→∃ C',(p (l.getD i blk0)=false→itW (evC (callW CT) itW base s_f69_l0) [] A.length (frOf 19 [(0,v),(1,f),(7,Iz l.length),(8,Iz i)]) C=itW (evC (callW CT) itW base s_f69_l0) [] A.length (frOf 19 [(0,v),(1,f),(7,Iz l.length),(8,Iz (i+1:Nat))]) (trim A.length (frOf 19 [(0,v),(1,f),(7,Iz l.length),(8,Iz (i+1:Nat))]) C'))∧(p (l.getD i blk0)=true→itW (evC (callW CT) itW base s_f69_l0) [] A.length (frOf 19 [(0,v),(1,f),(7,Iz l.length),(8,Iz i)]) C=some (.ret,frOf 19 [(4,Iz i)],trim A.length (frOf 19 [(4,Iz i)]) C'))∧Ext A C':=by
  intro i C hi hE
  have hlt':((i:Int) < (l.length:Int)):=by omega
  have hwk:=w64 (n:=i) (by omega)
  obtain ⟨a,r,a1,hr,rd,_⟩:=hv.at2 (some_getD hi blk0)
  have a2:=rd C hE
  obtain ⟨C',c1,c2⟩:=hp i _ r (some_getD hi blk0) hr C hE
  refine ⟨C',fun hp=>?_,fun hp=>?_,hE.trans c2⟩
  ·rw [hp] at c1
   rw [itW_step]
   simp only [Iz,a_f69,s_f69_l0_b,aa,reduceIte,reduceCtorEq,Nat.reduceEqDiff,Nat.reduceLT,Nat.reduceLeDiff,Nat.reduceBEq,Nat.reduceAdd,Nat.reduceMul,hlt',a1,a2,c1,hwk]
  ·rw [hp] at c1
   rw [itW_step]
   simp only [Iz,a_f69,s_f69_l0_b,aa,reduceIte,reduceCtorEq,Nat.reduceEqDiff,Nat.reduceLT,Nat.reduceLeDiff,Nat.reduceBEq,Nat.reduceAdd,Nat.reduceMul,hlt',a1,a2,c1,hwk]
 have hlen:=hv.len
 rcases it_findR l.length (fun i=>p (l.getD i blk0)) (fun C=>Ext A C) (fun i C=>itW (evC (callW CT) itW base s_f69_l0) [] A.length (frOf 19 [(0,v),(1,f),(7,Iz l.length),(8,Iz i)]) C) (fun i C hi hp hE=>by obtain ⟨C',q1,_,q3⟩:=step i C hi hE;exact ⟨_,q1 hp,q3.trim (Nat.le_refl _) _⟩) A (Ext.refl A) with ⟨h1,C,h2,h3⟩ | ⟨i,C,hi,h1,h2,h3,h4⟩
 ·refine ⟨trim A.length (frOf 19 [(0,v),(1,f),(7,Iz l.length),(8,Iz l.length),(9,bl false)]) C,callW_fn (c:=s_f69) hT (by simp [s_f69]) ?_,h3.trim (Nat.le_refl _) _⟩
  rw [idxP_none blk0 h1]
  have hend:itW (evC (callW CT) itW base s_f69_l0) [] A.length (frOf 19 [(0,v),(1,f),(7,Iz l.length),(8,Iz l.length)]) C=some (.ext 0,frOf 19 [(0,v),(1,f),(7,Iz l.length),(8,Iz l.length),(9,bl false)],trim A.length (frOf 19 [(0,v),(1,f),(7,Iz l.length),(8,Iz l.length),(9,bl false)]) C):=by
   rw [itW_step]
   simp only [Iz,bl,a_f69,s_f69_l0_b,aa,reduceIte,reduceCtorEq,Nat.reduceEqDiff,Nat.reduceLT,Nat.reduceLeDiff,Nat.reduceBEq,Nat.reduceAdd,Nat.reduceMul,Int.lt_irrefl]
  have h4:=h2.trans hend
  simp only [Iz,bl,cast0] at h4
  simp only [Iz,bl,s_f69,a_f69,s_f69_l0_b,aa,reduceIte,reduceCtorEq,Nat.reduceEqDiff,Nat.reduceLT,Nat.reduceLeDiff,Nat.reduceBEq,Nat.reduceAdd,Nat.reduceMul,hlen,h4]
 ·obtain ⟨C',_,q2,q3⟩:=step i C hi h4
  refine ⟨trim A.length (frOf 19 [(4,Iz i)]) C',callW_fn (c:=s_f69) hT (by simp [s_f69]) ?_,q3.trim (Nat.le_refl _) _⟩
  rw [idxP_some blk0 hi h1 h2]
  have h5:=h3.trans (q2 h1)
  simp only [Iz,bl,cast0] at h5
  simp only [Iz,bl,s_f69,a_f69,s_f69_l0_b,aa,reduceIte,reduceCtorEq,Nat.reduceEqDiff,Nat.reduceLT,Nat.reduceLeDiff,Nat.reduceBEq,Nat.reduceAdd,Nat.reduceMul,hlen,h5]
theorem idxI_fun (hT:CT k_f68=some (.code s_f68)) (base:Nat) (A:Heap) {v f:V} {l:List InsD} {p:InsD→Bool} (hv:RdL 8 RdIns A v l) (hp:∀ (i:Nat) (x:InsD) (r:List V),l[i]?=some x→RdIns A r x→∀ D,Ext A D→∃ D',callW CT f [.agg r] base D=some (.s (.bool (p x)),D')∧Ext D D') (hl:l.length < 2 ^ 40):
 ∃ H',callW CT (.fn k_f68 [] []) [v,f] base A=some (Iz (idxP p l),H')∧Ext A H':=by
 have step:∀ i C,i < l.length→Ext A C→∃ C',(p (l.getD i ins0)=false→itW (evC (callW CT) itW base s_f68_l0) [] A.length (frOf 19 [(0,v),(1,f),(7,Iz l.length),(8,Iz i)]) C=itW (evC (callW CT) itW base s_f68_l0) [] A.length (frOf 19 [(0,v),(1,f),(7,Iz l.length),(8,Iz (i+1:Nat))]) (trim A.length (frOf 19 [(0,v),(1,f),(7,Iz l.length),(8,Iz (i+1:Nat))]) C'))∧(p (l.getD i ins0)=true→itW (evC (callW CT) itW base s_f68_l0) [] A.length (frOf 19 [(0,v),(1,f),(7,Iz l.length),(8,Iz i)]) C=some (.ret,frOf 19 [(4,Iz i)],trim A.length (frOf 19 [(4,Iz i)]) C'))∧Ext A C':=by
  intro i C hi hE
  have hlt':((i:Int) < (l.length:Int)):=by omega
  have hwk:=w64 (n:=i) (by omega)
  obtain ⟨a,r,a1,hr,rd,_⟩:=hv.at2 (some_getD hi ins0)
  have a2:=rd C hE
  obtain ⟨C',c1,c2⟩:=hp i _ r (some_getD hi ins0) hr C hE
  refine ⟨C',fun hp=>?_,fun hp=>?_,hE.trans c2⟩
  ·rw [hp] at c1
   rw [itW_step]
   simp only [Iz,a_f68,s_f68_l0_b,aa,reduceIte,reduceCtorEq,Nat.reduceEqDiff,Nat.reduceLT,Nat.reduceLeDiff,Nat.reduceBEq,Nat.reduceAdd,Nat.reduceMul,hlt',a1,a2,c1,hwk]
  ·rw [hp] at c1
   rw [itW_step]
   simp only [Iz,a_f68,s_f68_l0_b,aa,reduceIte,reduceCtorEq,Nat.reduceEqDiff,Nat.reduceLT,Nat.reduceLeDiff,Nat.reduceBEq,Nat.reduceAdd,Nat.reduceMul,hlt',a1,a2,c1,hwk]
 have hlen:=hv.len
 rcases it_findR l.length (fun i=>p (l.getD i ins0)) (fun C=>Ext A C) (fun i C=>itW (evC (callW CT) itW base s_f68_l0) [] A.length (frOf 19 [(0,v),(1,f),(7,Iz l.length),(8,Iz i)]) C) (fun i C hi hp hE=>by obtain ⟨C',q1,_,q3⟩:=step i C hi hE;exact ⟨_,q1 hp,q3.trim (Nat.le_refl _) _⟩) A (Ext.refl A) with ⟨h1,C,h2,h3⟩ | ⟨i,C,hi,h1,h2,h3,h4⟩
 ·refine ⟨trim A.length (frOf 19 [(0,v),(1,f),(7,Iz l.length),(8,Iz l.length),(9,bl false)]) C,callW_fn (c:=s_f68) hT (by simp [s_f68]) ?_,h3.trim (Nat.le_refl _) _⟩
  rw [idxP_none ins0 h1]
  have hend:itW (evC (callW CT) itW base s_f68_l0) [] A.length (frOf 19 [(0,v),(1,f),(7,Iz l.length),(8,Iz l.length)]) C=some (.ext 0,frOf 19 [(0,v),(1,f),(7,Iz l.length),(8,Iz l.length),(9,bl false)],trim A.length (frOf 19 [(0,v),(1,f),(7,Iz l.length),(8,Iz l.length),(9,bl false)]) C):=by
   rw [itW_step]
   simp only [Iz,bl,a_f68,s_f68_l0_b,aa,reduceIte,reduceCtorEq,Nat.reduceEqDiff,Nat.reduceLT,Nat.reduceLeDiff,Nat.reduceBEq,Nat.reduceAdd,Nat.reduceMul,Int.lt_irrefl]
  have h4:=h2.trans hend
  simp only [Iz,bl,cast0] at h4
  simp only [Iz,bl,s_f68,a_f68,s_f68_l0_b,aa,reduceIte,reduceCtorEq,Nat.reduceEqDiff,Nat.reduceLT,Nat.reduceLeDiff,Nat.reduceBEq,Nat.reduceAdd,Nat.reduceMul,hlen,h4]
 ·obtain ⟨C',_,q2,q3⟩:=step i C hi h4
  refine ⟨trim A.length (frOf 19 [(4,Iz i)]) C',callW_fn (c:=s_f68) hT (by simp [s_f68]) ?_,q3.trim (Nat.le_refl _) _⟩
  rw [idxP_some ins0 hi h1 h2]
  have h5:=h3.trans (q2 h1)
  simp only [Iz,bl,cast0] at h5
  simp only [Iz,bl,s_f68,a_f68,s_f68_l0_b,aa,reduceIte,reduceCtorEq,Nat.reduceEqDiff,Nat.reduceLT,Nat.reduceLeDiff,Nat.reduceBEq,Nat.reduceAdd,Nat.reduceMul,hlen,h5]
theorem conS_fun (hT:CT k_f39=some (.code s_f39)) (hI:CT k_f62=some (.code s_f62)) (base:Nat) (A:Heap) {v f:V} {l:List ByteArray} {p:ByteArray→Bool} (hv:Rd A v (l.map Sb)) (hw:Wide1 v) (hp:∀ x,x∈l→∀ D,Ext A D→∃ D',callW CT f [Sb x] base D=some (.s (.bool (p x)),D')∧Ext D D') (hl:l.length < 2 ^ 40):
 ∃ H',callW CT (.fn k_f39 [] []) [v,f] base A=some (.s (.bool (l.any p)),H')∧Ext A H':=by
 obtain ⟨H',h1,h2⟩:=idxS_fun hI base A hv hw hp hl
 refine ⟨H',callW_fn (c:=s_f39) hT (by simp [s_f39]) ?_,h2⟩
 rw [← idxP_any]
 simp only [Iz] at h1
 simp only [s_f39,a_f39,aa,reduceIte,reduceCtorEq,Nat.reduceEqDiff,Nat.reduceLT,Nat.reduceLeDiff,Nat.reduceBEq,Nat.reduceAdd,Nat.reduceMul,h1]
theorem conB_fun (hT:CT k_f57=some (.code s_f57)) (hI:CT k_f69=some (.code s_f69)) (base:Nat) (A:Heap) {v f:V} {l:List BlkD} {p:BlkD→Bool} (hv:RdL 2 RdBlk A v l) (hp:∀ (i:Nat) (x:BlkD) (r:List V),l[i]?=some x→RdBlk A r x→∀ D,Ext A D→∃ D',callW CT f [.agg r] base D=some (.s (.bool (p x)),D')∧Ext D D') (hl:l.length < 2 ^ 40):
 ∃ H',callW CT (.fn k_f57 [] []) [v,f] base A=some (.s (.bool (l.any p)),H')∧Ext A H':=by
 obtain ⟨H',h1,h2⟩:=idxB_fun hI base A hv hp hl
 refine ⟨H',callW_fn (c:=s_f57) hT (by simp [s_f57]) ?_,h2⟩
 rw [← idxP_any]
 simp only [Iz] at h1
 simp only [s_f57,a_f57,aa,reduceIte,reduceCtorEq,Nat.reduceEqDiff,Nat.reduceLT,Nat.reduceLeDiff,Nat.reduceBEq,Nat.reduceAdd,Nat.reduceMul,h1]
theorem conI_fun (hT:CT k_f53=some (.code s_f53)) (hI:CT k_f68=some (.code s_f68)) (base:Nat) (A:Heap) {v f:V} {l:List InsD} {p:InsD→Bool} (hv:RdL 8 RdIns A v l) (hp:∀ (i:Nat) (x:InsD) (r:List V),l[i]?=some x→RdIns A r x→∀ D,Ext A D→∃ D',callW CT f [.agg r] base D=some (.s (.bool (p x)),D')∧Ext D D') (hl:l.length < 2 ^ 40):
 ∃ H',callW CT (.fn k_f53 [] []) [v,f] base A=some (.s (.bool (l.any p)),H')∧Ext A H':=by
 obtain ⟨H',h1,h2⟩:=idxI_fun hI base A hv hp hl
 refine ⟨H',callW_fn (c:=s_f53) hT (by simp [s_f53]) ?_,h2⟩
 rw [← idxP_any]
 simp only [Iz] at h1
 simp only [s_f53,a_f53,aa,reduceIte,reduceCtorEq,Nat.reduceEqDiff,Nat.reduceLT,Nat.reduceLeDiff,Nat.reduceBEq,Nat.reduceAdd,Nat.reduceMul,h1]
end
end Go.Proofs.YtamlbkalopefgaaR
set_option maxRecDepth 100000
namespace Go.Proofs.YtamlbkalopefgaaR
open Go.AM
def letter (c:Int):Bool:=decide (c ≥ 97) && decide (c≤122) || decide (c ≥ 65) && decide (c≤90) || c == 95
def badAt (i:Nat) (c:UInt8):Bool:=!letter c.toNat && ((i:Int) == 0 || (decide ((c.toNat:Int) < 48) || decide ((c.toNat:Int) > 57)) && (c.toNat:Int) != 46)
def okFrom:Nat→List UInt8→Bool
 | _,[]=>true
 | i,c :: l=>!badAt i c && okFrom (i+1) l
theorem is_loop (call:CallF) (base:Nat) (b:ByteArray) (hb:b.size≤64) (H:Heap):∀ (l:List UInt8) (i:Nat),b.data.toList.drop i=l→i≤b.size→
 itW (evC call itW base s_f7_l0) [] H.length (frOf 62 [(0,.s (.string b)),(18,.s (.int .i64 b.size)),(19,.s (.int .i64 i))]) H=
 bif okFrom i l then some (.ext 0,frOf 62 [(0,.s (.string b)),(18,.s (.int .i64 b.size)),(19,.s (.int .i64 b.size)),(20,bl false)],H) else some (.ret,frOf 62 [(2,bl false)],H):=by
 intro l
 have hsz:b.data.toList.length=b.size:=rfl
 induction l with
 | nil=>
   intro i hd hi
   have hin:i=b.size:=by
    have:=congrArg List.length hd
    rw [List.length_drop,hsz] at this
    simp at this
    omega
   subst hin
   rw [itW_step]
   simp only [a_f7,s_f7_l0_b,aa,reduceIte,reduceCtorEq,Nat.reduceEqDiff,Nat.reduceLT,Nat.reduceLeDiff,Nat.reduceBEq,Nat.reduceAdd,Nat.reduceMul,Int.lt_irrefl,okFrom]
 | cons c l ih=>
   intro i hd hi
   have hc:b.data.toList[i]?=some c:=by have:=congrArg (·[0]?) hd;simp only [List.getElem?_drop] at this;exact this
   have hlt:i < b.size:=by have:=(List.getElem?_eq_some_iff.1 hc).1;omega
   have hi':((i:Int) < (b.size:Int)):=by omega
   have hd':b.data.toList.drop (i+1)=l:=by
    have:=congrArg (List.drop 1) hd
    simpa [List.drop_drop,Nat.add_comm] using this
   have hw:IntKind.i64.wrap ((i:Int)+1)=((i+1:Nat):Int):=by rw [IntKind.wrap_i64];omega
   rw [itW_step]
   simp only [a_f7,s_f7_l0_b,aa,reduceIte,reduceCtorEq,Nat.reduceEqDiff,Nat.reduceLT,Nat.reduceLeDiff,Nat.reduceBEq,Nat.reduceAdd,Nat.reduceMul,hi',hc,hw,okFrom] at ih ⊢
   rw [ih (i+1) hd' hlt]
   cases h:badAt i c <;> (unfold badAt letter at h;simp only [h,aa,reduceIte,reduceCtorEq,Nat.reduceEqDiff,Nat.reduceLT,Nat.reduceLeDiff,Nat.reduceBEq,Nat.reduceAdd,Nat.reduceMul])
def isName (b:ByteArray):Bool:=!(b.data.toList == [] || decide ((b.size:Int) > 64) || b.data.toList == [110,117,108,108]) && okFrom 0 b.data.toList
theorem is_fun (CT:Nat→Option CFun) (hT:CT k_f7=some (.code s_f7)) (b:ByteArray) (base:Nat) (H:Heap):callW CT (.fn k_f7 [] []) [.s (.string b)] base H=some (bl (isName b),H):=by
 refine callW_fn (c:=s_f7) hT (by simp [s_f7]) ?_
 have hl:=is_loop (callW CT) base b
 simp only [s_f7,a_f7,s_f7_l0_b,aa,reduceIte,reduceCtorEq,Nat.reduceEqDiff,Nat.reduceLT,Nat.reduceLeDiff,Nat.reduceBEq,Nat.reduceAdd,Nat.reduceMul]
 cases hz:(b.data.toList == [] || decide ((b.size:Int) > 64) || b.data.toList == [110,117,108,108]) with
 | true=>simp only [hz,isName,aa,reduceIte,reduceCtorEq,Nat.reduceEqDiff,Nat.reduceLT,Nat.reduceLeDiff,Nat.reduceBEq,Nat.reduceAdd,Nat.reduceMul]
 | false=>
   have hb:b.size≤64:=by
    simp only [Bool.or_eq_false_iff,decide_eq_false_iff_not] at hz
    have:=hz.1.2
    omega
   have hl:=is_loop (callW CT) base b hb H b.data.toList 0 rfl (Nat.zero_le _)
   rw [show ((0:Nat):Int)=0 from rfl] at hl
   simp only [isName,hz,hl,a_f7,s_f7_l0_b,aa,reduceIte,reduceCtorEq,Nat.reduceEqDiff,Nat.reduceLT,Nat.reduceLeDiff,Nat.reduceBEq,Nat.reduceAdd,Nat.reduceMul]
   cases okFrom 0 b.data.toList <;> simp only [a_f7,s_f7_l0_b,aa,reduceIte,reduceCtorEq,Nat.reduceEqDiff,Nat.reduceLT,Nat.reduceLeDiff,Nat.reduceBEq,Nat.reduceAdd,Nat.reduceMul]
end Go.Proofs.YtamlbkalopefgaaR
set_option maxRecDepth 100000
namespace Go.Proofs.YtamlbkalopefgaaR
open Go.AM
def emptyB (s:ByteArray):Bool:=s.data.toList == []
def nullB (s:ByteArray):Bool:=s.data.toList == [110,117,108,108]
def badS (op:Bool) (s:ByteArray):Bool:=!emptyB s && !isName s && !(op && nullB s)
section
variable {CT:Nat→Option CFun}
theorem badName1_fun (hI:CT k_f7=some (.code s_f7)) (hT:CT k_f40=some (.code s_f40)) (base:Nat) (H:Heap) (s:ByteArray):callW CT (.fn k_f40 [] []) [Sb s] base H=some (.s (.bool (!isName s)),H):=by
 have h:=is_fun CT hI s base H
 refine callW_fn (c:=s_f40) hT (by simp [s_f40]) ?_
 simp only [bl] at h
 simp only [s_f40,a_f40,aa,reduceIte,reduceCtorEq,Nat.reduceEqDiff,Nat.reduceLT,Nat.reduceLeDiff,Nat.reduceBEq,Nat.reduceAdd,Nat.reduceMul,h]
theorem bad1_fun (hI:CT k_f7=some (.code s_f7)) (hT:CT k_f63=some (.code s_f63)) (base:Nat) {H:Heap} {id:Nat} {op:Bool} (hg:getC H id 0=some [.s (.bool op)]) (s:ByteArray):callW CT (.fn k_f63 [] [.ref id 0 0]) [Sb s] base H=some (.s (.bool (badS op s)),H):=by
 have h:=is_fun CT hI s base H
 have hx:=getC_load hg
 refine callW_fn (c:=s_f63) hT (by simp [s_f63]) ?_
 simp only [bl] at h
 unfold badS emptyB nullB
 cases h0:(s.data.toList == []) with
 | true=>simp only [s_f63,a_f63,aa,reduceIte,reduceCtorEq,Nat.reduceEqDiff,Nat.reduceLT,Nat.reduceLeDiff,Nat.reduceBEq,Nat.reduceAdd,Nat.reduceMul,h0]
 | false=>
   cases h1:isName s with
   | true=>
     rw [h1] at h
     simp only [s_f63,a_f63,aa,reduceIte,reduceCtorEq,Nat.reduceEqDiff,Nat.reduceLT,Nat.reduceLeDiff,Nat.reduceBEq,Nat.reduceAdd,Nat.reduceMul,h0,h]
   | false=>
     rw [h1] at h
     cases op with
     | true=>simp only [s_f63,a_f63,aa,reduceIte,reduceCtorEq,Nat.reduceEqDiff,Nat.reduceLT,Nat.reduceLeDiff,Nat.reduceBEq,Nat.reduceAdd,Nat.reduceMul,h0,h,hx]
     | false=>simp only [s_f63,a_f63,aa,reduceIte,reduceCtorEq,Nat.reduceEqDiff,Nat.reduceLT,Nat.reduceLeDiff,Nat.reduceBEq,Nat.reduceAdd,Nat.reduceMul,h0,h,hx]
theorem bad_fun (hI:CT k_f7=some (.code s_f7)) (hT1:CT k_f63=some (.code s_f63)) (hT:CT k_f41=some (.code s_f41)) (hC:CT k_f39=some (.code s_f39)) (hX:CT k_f62=some (.code s_f62)) (base:Nat) (H:Heap) (op:Bool) {v:V} {l:List ByteArray} (hv:Rd H v (l.map Sb)) (hw:Wide1 v) (hl:l.length < 2 ^ 40):
 ∃ H',callW CT (.fn k_f41 [] []) [.s (.bool op),v] base H=some (.s (.bool (l.any (badS op))),H')∧Ext H H':=by
 have e0:Ext H (H ++ [Ob.cells 0 [.s (.bool op)]]):=Ext.app _ _
 obtain ⟨H',h1,h2⟩:=conS_fun hC hX base (H ++ [Ob.cells 0 [.s (.bool op)]]) (f:=.fn k_f63 [] [.ref H.length 0 0]) (p:=badS op) (hv.ext e0) hw (fun x _ D hD=>⟨D,bad1_fun hI hT1 base (getC_ext (getC_new H 0 _) hD) x,Ext.refl D⟩) hl
 refine ⟨H',callW_fnA (c:=s_f41) (k:=2) hT rfl (by decide) s_f41_first ?_,e0.trans h2⟩
 simp only [s_f41,a_f41,aa,reduceIte,reduceCtorEq,Nat.reduceEqDiff,Nat.reduceLT,Nat.reduceLeDiff,Nat.reduceBEq,Nat.reduceAdd,Nat.reduceMul,xsub_mkFn,h1]
theorem indexS_fun (hT:CT k_f64=some (.code s_f64)) (base:Nat) (A:Heap) {v:V} {l:List ByteArray} (s:ByteArray) (hv:Rd A v (l.map Sb)) (hw:Wide1 v) (hl:l.length < 2 ^ 40):
 callW CT (.fn k_f64 [] []) [v,Sb s] base A=some (Iz (idxP (fun x=>s.data.toList == x.data.toList) l),A):=by
 have hlen:=Sb_len hv
 have step:∀ i,i < l.length→(s.data.toList == (l.getD i ⟨#[]⟩).data.toList)=false→itW (evC (callW CT) itW base s_f64_l0) [] A.length (frOf 19 [(0,v),(1,Sb s),(7,Iz l.length),(8,Iz i)]) A=itW (evC (callW CT) itW base s_f64_l0) [] A.length (frOf 19 [(0,v),(1,Sb s),(7,Iz l.length),(8,Iz (i+1:Nat))]) A:=by
  intro i hi hp
  have hlt':((i:Int) < (l.length:Int)):=by omega
  have hwk:=w64 (n:=i) (by omega)
  obtain ⟨a,a1,a2⟩:=Sb_at hv hw hi
  rw [itW_step]
  simp only [Iz,Sb,a_f64,s_f64_l0_b,aa,reduceIte,reduceCtorEq,Nat.reduceEqDiff,Nat.reduceLT,Nat.reduceLeDiff,Nat.reduceBEq,Nat.reduceAdd,Nat.reduceMul,hlt',a1,a2,hp,hwk,trim_same rfl]
 refine callW_fn (c:=s_f64) hT (by simp [s_f64]) ?_
 rcases it_find l.length (fun i=>s.data.toList == (l.getD i ⟨#[]⟩).data.toList) (fun i=>itW (evC (callW CT) itW base s_f64_l0) [] A.length (frOf 19 [(0,v),(1,Sb s),(7,Iz l.length),(8,Iz i)]) A) step with ⟨h1,h2⟩ | ⟨i,hi,h1,h2,h3⟩
 ·rw [idxP_none ⟨#[]⟩ h1]
  have hend:itW (evC (callW CT) itW base s_f64_l0) [] A.length (frOf 19 [(0,v),(1,Sb s),(7,Iz l.length),(8,Iz l.length)]) A=some (.ext 0,frOf 19 [(0,v),(1,Sb s),(7,Iz l.length),(8,Iz l.length),(9,bl false)],A):=by
   rw [itW_step]
   simp only [Iz,Sb,bl,a_f64,s_f64_l0_b,aa,reduceIte,reduceCtorEq,Nat.reduceEqDiff,Nat.reduceLT,Nat.reduceLeDiff,Nat.reduceBEq,Nat.reduceAdd,Nat.reduceMul,Int.lt_irrefl,trim_same rfl]
  have h4:=h2.trans hend
  simp only [Iz,Sb,bl,cast0] at h4
  simp only [Iz,Sb,s_f64,a_f64,s_f64_l0_b,aa,reduceIte,reduceCtorEq,Nat.reduceEqDiff,Nat.reduceLT,Nat.reduceLeDiff,Nat.reduceBEq,Nat.reduceAdd,Nat.reduceMul,hlen,h4]
 ·rw [idxP_some ⟨#[]⟩ hi h1 h2]
  have hlt':((i:Int) < (l.length:Int)):=by omega
  obtain ⟨a,a1,a2⟩:=Sb_at hv hw hi
  have hend:itW (evC (callW CT) itW base s_f64_l0) [] A.length (frOf 19 [(0,v),(1,Sb s),(7,Iz l.length),(8,Iz i)]) A=some (.ret,frOf 19 [(4,Iz i)],A):=by
   rw [itW_step]
   simp only [Iz,Sb,bl,a_f64,s_f64_l0_b,aa,reduceIte,reduceCtorEq,Nat.reduceEqDiff,Nat.reduceLT,Nat.reduceLeDiff,Nat.reduceBEq,Nat.reduceAdd,Nat.reduceMul,hlt',a1,a2,h1,trim_same rfl]
  have h4:=h3.trans hend
  simp only [Iz,Sb,bl,cast0] at h4
  simp only [Iz,Sb,s_f64,a_f64,s_f64_l0_b,aa,reduceIte,reduceCtorEq,Nat.reduceEqDiff,Nat.reduceLT,Nat.reduceLeDiff,Nat.reduceBEq,Nat.reduceAdd,Nat.reduceMul,hlen,h4]
theorem containsS_fun (hT:CT k_f42=some (.code s_f42)) (hI:CT k_f64=some (.code s_f64)) (base:Nat) (A:Heap) {v:V} {l:List ByteArray} (s:ByteArray) (hv:Rd A v (l.map Sb)) (hw:Wide1 v) (hl:l.length < 2 ^ 40):
 callW CT (.fn k_f42 [] []) [v,Sb s] base A=some (.s (.bool (l.any fun x=>s.data.toList == x.data.toList)),A):=by
 have h:=indexS_fun hI base A s hv hw hl
 refine callW_fn (c:=s_f42) hT (by simp [s_f42]) ?_
 rw [← idxP_any]
 simp only [Iz,Sb] at h
 simp only [Sb,s_f42,a_f42,aa,reduceIte,reduceCtorEq,Nat.reduceEqDiff,Nat.reduceLT,Nat.reduceLeDiff,Nat.reduceBEq,Nat.reduceAdd,Nat.reduceMul,h]
end
end Go.Proofs.YtamlbkalopefgaaR
set_option maxRecDepth 100000
namespace Go.AM
def srch {α β:Type} (f:Nat→α→Option β):List α→Nat→Option β
 | [],_=>none
 | x :: l,i=>match f i x with | some b=>some b | none=>srch f l (i+1)
theorem srch_none {α β:Type} {f:Nat→α→Option β}:∀ {l:List α} {k:Nat},srch f l k=none↔∀ i x,l[i]?=some x→f (k+i) x=none:=by
 intro l
 induction l with
 | nil=>intro k;simp [srch]
 | cons a l ih=>
   intro k
   rw [srch]
   cases h:f k a with
   | some b=>
     simp only [reduceCtorEq,false_iff]
     intro hc
     have:=hc 0 a rfl
     rw [Nat.add_zero,h] at this
     cases this
   | none=>
     simp only
     rw [ih]
     constructor
     ·intro hc i x hx
      cases i with
      | zero=>rw [List.getElem?_cons_zero] at hx;rw [← Option.some.inj hx];exact h
      | succ i=>rw [List.getElem?_cons_succ] at hx;have:=hc i x hx;rwa [show k+1+i=k+(i+1) by omega] at this
     ·intro hc i x hx
      have:=hc (i+1) x (by rw [List.getElem?_cons_succ];exact hx)
      rwa [show k+(i+1)=k+1+i by omega] at this
theorem it_srch {α β S T:Type} (l:List α) (d:α) (f:Nat→α→Option β) (P:Nat→S→Prop) (X:Nat→S→T) (Q:β→T→Prop) (step:∀ i s,i < l.length→P i s→(f i (l.getD i d)=none∧∃ s',X i s=X (i+1) s'∧P (i+1) s')∨∃ b,f i (l.getD i d)=some b∧Q b (X i s)):∀ s,P 0 s→(srch f l 0=none∧∃ s',X 0 s=X l.length s'∧P l.length s')∨∃ b,srch f l 0=some b∧Q b (X 0 s):=by
 have key:∀ (r:List α) (i:Nat) (s0 s:S),l.drop i=r→i≤l.length→X 0 s0=X i s→P i s→(srch f r i=none∧∃ s',X 0 s0=X l.length s'∧P l.length s')∨∃ b,srch f r i=some b∧Q b (X 0 s0):=by
  intro r
  induction r with
  | nil=>
    intro i s0 s hd hi hx hp
    have hin:i=l.length:=by
     have:=congrArg List.length hd
     rw [List.length_drop] at this
     simp at this
     omega
    subst hin
    exact .inl ⟨rfl,s,hx,hp⟩
  | cons a r ih=>
    intro i s0 s hd hi hx hp
    have hc:l[i]?=some a:=by have:=congrArg (·[0]?) hd;simp only [List.getElem?_drop] at this;exact this
    have hlt:i < l.length:=(List.getElem?_eq_some_iff.1 hc).1
    have hd':l.drop (i+1)=r:=by
     have:=congrArg (List.drop 1) hd
     simpa [List.drop_drop,Nat.add_comm] using this
    have hg:l.getD i d=a:=by rw [List.getD,hc];rfl
    rw [srch]
    rcases step i s hlt hp with ⟨h1,s',h2,h3⟩ | ⟨b,h1,h2⟩
    ·rw [hg] at h1
     rw [h1]
     exact ih (i+1) s0 s' hd' hlt (hx.trans h2) h3
    ·rw [hg] at h1
     rw [h1]
     exact .inr ⟨b,rfl,by rw [hx];exact h2⟩
 exact fun s hp=>key l 0 s s rfl (Nat.zero_le _) rfl hp
end Go.AM
set_option maxRecDepth 100000
namespace Go.AM
section
variable {κ:Type} [DecidableEq κ]
def SetOf (enc:κ→Value) (S:κ→Bool) (M:Ob):Prop:=∃ ks,M=.map (esG enc ks fun _=>.s (.bool true))∧ks.Nodup∧∀ l,l∈ks↔S l=true
theorem setOf_nil (enc:κ→Value):SetOf enc (fun _=>false) (.map []):=⟨[],rfl,List.nodup_nil,fun l=>by simp⟩
theorem SetOf.congr {enc:κ→Value} {S T:κ→Bool} {M:Ob} (h:SetOf enc S M) (e:∀ l,S l=T l):SetOf enc T M:=by
 obtain ⟨ks,h1,h2,h3⟩:=h
 exact ⟨ks,h1,h2,fun l=>by rw [h3,e]⟩
theorem setOf_put {kd:TypeDesc} {enc:κ→Value} (hs:∀ a b,Instr.sameNow kd (enc a) (enc b)=some (decide (a=b))) (hko:∀ a,keyOk kd (enc a)=true) {S:κ→Bool} {M:Ob} (h:SetOf enc S M) (k:κ) {H:Heap} {base j:Nat} (hb:base≤j) (hH:H[j]?=some M):
 ∃ M',updMV H base kd (.mp j) (.s (enc k)) (.s (.bool true))=some (und,H.set j M')∧SetOf enc (fun l=>S l || decide (l=k)) M':=by
 obtain ⟨ks,rfl,hn,hm⟩:=h
 refine ⟨_,upd_g hs hko hb hH k (.s (.bool true)),?_⟩
 by_cases hkk:k∈ks
 ·rw [if_pos hkk,esG_upd hn _ k hkk]
  refine ⟨ks,?_,hn,fun l=>?_⟩
  ·congr 1
   exact List.map_congr_left fun x _=>by by_cases e:x=k <;> simp [e]
  ·rw [hm,Bool.or_eq_true,decide_eq_true_iff]
   exact ⟨.inl,fun e=>e.elim id fun e=>by rw [e];exact (hm k).1 hkk⟩
 ·rw [if_neg hkk]
  refine ⟨ks ++ [k],?_,?_,fun l=>?_⟩
  ·congr 1
   simp [esG]
  ·rw [List.nodup_append]
   exact ⟨hn,by simp,fun a ha b hb e=>by rw [List.mem_singleton] at hb;exact hkk (by rw [← hb,← e];exact ha)⟩
  ·rw [List.mem_append,List.mem_singleton,hm,Bool.or_eq_true,decide_eq_true_iff]
theorem setOf_get {kd:TypeDesc} {enc:κ→Value} (hs:∀ a b,Instr.sameNow kd (enc a) (enc b)=some (decide (a=b))) (hko:∀ a,keyOk kd (enc a)=true) {S:κ→Bool} {M:Ob} (h:SetOf enc S M) (l:κ) {H:Heap} {j:Nat} (hH:H[j]?=some M):
 xMapGet H kd (.s (.bool false)) false (.mp j) (.s (enc l))=some (.s (.bool (S l))):=by
 obtain ⟨ks,rfl,hn,hm⟩:=h
 rw [get_g hs hko hH _ false l,if_neg Bool.false_ne_true]
 by_cases hl:l∈ks
 ·rw [if_pos hl,(hm l).1 hl]
 ·rw [if_neg hl]
  cases hS:S l with
  | false=>rfl
  | true=>exact absurd ((hm l).2 hS) hl
end
def esI (k:IntKind) (l:List (Int × V)):List (Value × V):=l.map fun p=>(.int k p.1,p.2)
theorem keyI (k:IntKind) (n:Int):keyOk (.int k) (.int k n)=true:=by simp [keyOk]
theorem sameI (k:IntKind) (a b:Int):Instr.sameNow (.int k) (.int k a) (.int k b)=some (decide (a=b)):=by
 cases k <;> (first | rw [sameNow_int] | skip) <;> rfl
theorem findA_I (k:IntKind) (n:Int):∀ (l:List (Int × V)) (i:Nat),findA (.int k) (.int k n) (esI k l) i=some (match l.findIdx? fun p=>decide (n=p.1) with | some j=>some (i+j,(l.getD j (0,und)).2) | none=>none):=by
 intro l
 induction l with
 | nil=>intro i;rfl
 | cons p l ih=>
   intro i
   have e:esI k (p :: l)=(.int k p.1,p.2) :: esI k l:=rfl
   rw [e]
   simp only [findA,sameI,List.findIdx?_cons]
   by_cases h:n=p.1
   ·simp [h]
   ·simp only [decide_eq_false h,ih,Bool.false_eq_true,if_false,cond_false]
    cases l.findIdx? fun p=>decide (n=p.1) with
    | none=>rfl
    | some j=>
      simp
      omega
def lookI (l:List (Int × V)) (n:Int):Option V:=match l.findIdx? fun p=>decide (n=p.1) with | some j=>some (l.getD j (0,und)).2 | none=>none
theorem upd_I {H:Heap} {base:Nat} (hb:base≤H.length) (k:IntKind) (l:List (Int × V)) (n:Int) (v:V) (hn:(l.all fun p=>decide (p.1≠n))=true):updMV (H ++ [.map (esI k l)]) base (.int k) (.mp H.length) (.s (.int k n)) v=some (und,H ++ [.map (esI k (l ++ [(n,v)]))]):=by
 have hH:(H ++ [Ob.map (esI k l)])[H.length]?=some (.map (esI k l)):=by simp
 have hf:=findA_I k n l 0
 have hnone:l.findIdx? (fun p=>decide (n=p.1))=none:=by
  rw [List.findIdx?_eq_none_iff]
  intro p hp
  have:=List.all_eq_true.1 hn p hp
  simpa using fun e=>(of_decide_eq_true this) e.symm
 rw [hnone] at hf
 simp only [updMV,hb,keyI,and_self,if_true,hH,hf]
 simp [esI]
theorem get_I {H:Heap} {j:Nat} (k:IntKind) {l:List (Int × V)} (hH:H[j]?=some (.map (esI k l))) (z:V) (ok:Bool) (n:Int):
 xMapGet H (.int k) z ok (.mp j) (.s (.int k n))=some (if ok then .tup [(lookI l n).getD z,bl (lookI l n).isSome] else (lookI l n).getD z):=by
 have hf:=findA_I k n l 0
 simp only [xMapGet,evOp,ev,List.getD_cons_zero,List.getD_cons_succ,keyI,if_true,hH,hf,lookI]
 cases l.findIdx? fun p=>decide (n=p.1) with
 | none=>cases ok <;> rfl
 | some j=>cases ok <;> rfl
end Go.AM
set_option maxRecDepth 100000
namespace Go.Proofs.YtamlbkalopefgaaR
open Go.AM
structure ShD where
 d:Bool
 a:Bool
 b:Bool
 k:Bool
 f:Bool
 xs:Bool
 ls:Bool
def ShD.c (s:ShD):List V:=[.s (.bool s.d),.s (.bool s.a),.s (.bool s.b),.s (.bool s.k),.s (.bool s.f),.s (.bool s.xs),.s (.bool s.ls)]
def shT:List (Int × V):=[(1,.agg (ShD.c ⟨true,false,false,true,false,false,false⟩)),(2,.agg (ShD.c ⟨true,false,false,true,false,false,false⟩)),(3,.agg (ShD.c ⟨true,false,false,false,false,false,false⟩)),(4,.agg (ShD.c ⟨true,false,false,false,true,false,false⟩)),(5,.agg (ShD.c ⟨true,true,false,false,false,false,false⟩)),(8,.agg (ShD.c ⟨true,true,false,false,false,false,false⟩)),(6,.agg (ShD.c ⟨true,false,false,false,false,true,true⟩)),(7,.agg (ShD.c ⟨true,true,false,true,false,false,false⟩)),(9,.agg (ShD.c ⟨false,true,true,false,false,false,false⟩)),(10,.agg (ShD.c ⟨true,false,false,false,true,true,false⟩)),(11,.agg (ShD.c ⟨true,true,false,false,false,true,false⟩)),(12,.agg (ShD.c ⟨false,false,false,false,false,false,true⟩)),(13,.agg (ShD.c ⟨false,false,false,false,false,false,true⟩)),(14,.agg (ShD.c ⟨false,true,false,false,false,false,false⟩))]
def shp (n:Int):ShD:=if n=1 then ⟨true,false,false,true,false,false,false⟩ else if n=2 then ⟨true,false,false,true,false,false,false⟩ else if n=3 then ⟨true,false,false,false,false,false,false⟩ else if n=4 then ⟨true,false,false,false,true,false,false⟩ else if n=5 then ⟨true,true,false,false,false,false,false⟩ else if n=8 then ⟨true,true,false,false,false,false,false⟩ else if n=6 then ⟨true,false,false,false,false,true,true⟩ else if n=7 then ⟨true,true,false,true,false,false,false⟩ else if n=9 then ⟨false,true,true,false,false,false,false⟩ else if n=10 then ⟨true,false,false,false,true,true,false⟩ else if n=11 then ⟨true,true,false,false,false,true,false⟩ else if n=12 then ⟨false,false,false,false,false,false,true⟩ else if n=13 then ⟨false,false,false,false,false,false,true⟩ else if n=14 then ⟨false,true,false,false,false,false,false⟩ else ⟨false,false,false,false,false,false,false⟩
theorem shT_get (n:Int):(lookI shT n).getD (.agg (ShD.c ⟨false,false,false,false,false,false,false⟩))=.agg (shp n).c:=by
 by_cases h1:n=1
 ·subst h1;rfl
 by_cases h2:n=2
 ·subst h2;rfl
 by_cases h3:n=3
 ·subst h3;rfl
 by_cases h4:n=4
 ·subst h4;rfl
 by_cases h5:n=5
 ·subst h5;rfl
 by_cases h8:n=8
 ·subst h8;rfl
 by_cases h6:n=6
 ·subst h6;rfl
 by_cases h7:n=7
 ·subst h7;rfl
 by_cases h9:n=9
 ·subst h9;rfl
 by_cases h10:n=10
 ·subst h10;rfl
 by_cases h11:n=11
 ·subst h11;rfl
 by_cases h12:n=12
 ·subst h12;rfl
 by_cases h13:n=13
 ·subst h13;rfl
 by_cases h14:n=14
 ·subst h14;rfl
 simp [lookI,shT,shp,List.findIdx?_cons,h1,h2,h3,h4,h5,h8,h6,h7,h9,h10,h11,h12,h13,h14]
section
variable {CT:Nat→Option CFun}
theorem shapes_fun (hT:CT k_f21=some (.code s_f21)) (base:Nat) (H:Heap) (hb:base≤H.length):callW CT (.fn k_f21 [] []) [] base H=some (.mp H.length,H ++ [.map (esI .u8 shT)]):=by
 refine callW_fn (c:=s_f21) hT (by simp [s_f21]) ?_
 have e0:(Ob.map []:Ob)=.map (esI .u8 []):=rfl
 have u1:=upd_I hb .u8 (shT.take 0) 1 (.agg (ShD.c ⟨true,false,false,true,false,false,false⟩)) (by decide)
 have u2:=upd_I hb .u8 (shT.take 1) 2 (.agg (ShD.c ⟨true,false,false,true,false,false,false⟩)) (by decide)
 have u3:=upd_I hb .u8 (shT.take 2) 3 (.agg (ShD.c ⟨true,false,false,false,false,false,false⟩)) (by decide)
 have u4:=upd_I hb .u8 (shT.take 3) 4 (.agg (ShD.c ⟨true,false,false,false,true,false,false⟩)) (by decide)
 have u5:=upd_I hb .u8 (shT.take 4) 5 (.agg (ShD.c ⟨true,true,false,false,false,false,false⟩)) (by decide)
 have u8:=upd_I hb .u8 (shT.take 5) 8 (.agg (ShD.c ⟨true,true,false,false,false,false,false⟩)) (by decide)
 have u6:=upd_I hb .u8 (shT.take 6) 6 (.agg (ShD.c ⟨true,false,false,false,false,true,true⟩)) (by decide)
 have u7:=upd_I hb .u8 (shT.take 7) 7 (.agg (ShD.c ⟨true,true,false,true,false,false,false⟩)) (by decide)
 have u9:=upd_I hb .u8 (shT.take 8) 9 (.agg (ShD.c ⟨false,true,true,false,false,false,false⟩)) (by decide)
 have u10:=upd_I hb .u8 (shT.take 9) 10 (.agg (ShD.c ⟨true,false,false,false,true,true,false⟩)) (by decide)
 have u11:=upd_I hb .u8 (shT.take 10) 11 (.agg (ShD.c ⟨true,true,false,false,false,true,false⟩)) (by decide)
 have u12:=upd_I hb .u8 (shT.take 11) 12 (.agg (ShD.c ⟨false,false,false,false,false,false,true⟩)) (by decide)
 have u13:=upd_I hb .u8 (shT.take 12) 13 (.agg (ShD.c ⟨false,false,false,false,false,false,true⟩)) (by decide)
 have u14:=upd_I hb .u8 (shT.take 13) 14 (.agg (ShD.c ⟨false,true,false,false,false,false,false⟩)) (by decide)
 simp only [shT,List.take_succ_cons,List.take_zero,List.cons_append,List.nil_append,ShD.c] at u1
 simp only [shT,List.take_succ_cons,List.take_zero,List.cons_append,List.nil_append,ShD.c] at u2
 simp only [shT,List.take_succ_cons,List.take_zero,List.cons_append,List.nil_append,ShD.c] at u3
 simp only [shT,List.take_succ_cons,List.take_zero,List.cons_append,List.nil_append,ShD.c] at u4
 simp only [shT,List.take_succ_cons,List.take_zero,List.cons_append,List.nil_append,ShD.c] at u5
 simp only [shT,List.take_succ_cons,List.take_zero,List.cons_append,List.nil_append,ShD.c] at u8
 simp only [shT,List.take_succ_cons,List.take_zero,List.cons_append,List.nil_append,ShD.c] at u6
 simp only [shT,List.take_succ_cons,List.take_zero,List.cons_append,List.nil_append,ShD.c] at u7
 simp only [shT,List.take_succ_cons,List.take_zero,List.cons_append,List.nil_append,ShD.c] at u9
 simp only [shT,List.take_succ_cons,List.take_zero,List.cons_append,List.nil_append,ShD.c] at u10
 simp only [shT,List.take_succ_cons,List.take_zero,List.cons_append,List.nil_append,ShD.c] at u11
 simp only [shT,List.take_succ_cons,List.take_zero,List.cons_append,List.nil_append,ShD.c] at u12
 simp only [shT,List.take_succ_cons,List.take_zero,List.cons_append,List.nil_append,ShD.c] at u13
 simp only [shT,List.take_succ_cons,List.take_zero,List.cons_append,List.nil_append,ShD.c] at u14
 simp only [shT,ShD.c]
 simp only [s_f21,a_f21,aa,reduceIte,reduceCtorEq,Nat.reduceEqDiff,Nat.reduceLT,Nat.reduceLeDiff,Nat.reduceBEq,Nat.reduceAdd,Nat.reduceMul,op_mapNew,op_mapUpd,hb,e0,u1,u2,u3,u4,u5,u8,u6,u7,u9,u10,u11,u12,u13,u14]
end
end Go.Proofs.YtamlbkalopefgaaR
set_option maxRecDepth 100000
namespace Go.Proofs.YtamlbkalopefgaaR
open Go.AM
abbrev Pt:=Nat × Nat × Nat
structure Small (fs:List FunD):Prop where
 n:fs.length < 2 ^ 20
 ps:∀ f∈fs,f.ps.length < 2 ^ 20
 nb:∀ f∈fs,f.blocks.length < 2 ^ 20
 nc:∀ f∈fs,∀ b∈f.blocks,b.code.length < 2 ^ 20
 xs:∀ f∈fs,∀ b∈f.blocks,∀ x∈b.code,x.xs.length < 2 ^ 20
 ls:∀ f∈fs,∀ b∈f.blocks,∀ x∈b.code,x.ls.length < 2 ^ 20
structure NC (A:Heap) (w sm:Nat) (fv:V) (fs:List FunD):Prop where
 gw:getC A w 0=some [fv,.mp sm]
 rd:RdProg A fv fs
 sml:Small fs
 sh:A[sm]?=some (.map (esI .u8 shT))
theorem Ext.at' {A B:Heap} (k:Ext A B) {i:Nat} {x:Ob} (h:A[i]?=some x):B[i]?=some x:=by
 obtain ⟨G,rfl⟩:=k
 rw [List.getElem?_append_left (List.getElem?_eq_some_iff.1 h).1]
 exact h
theorem NC.ext {A B:Heap} {w sm:Nat} {fv:V} {fs:List FunD} (h:NC A w sm fv fs) (k:Ext A B):NC B w sm fv fs:=⟨getC_ext h.gw k,h.rd.ext k,h.sml,Ext.at' k h.sh⟩
theorem NC.load {A B:Heap} {w sm:Nat} {fv:V} {fs:List FunD} (h:NC A w sm fv fs) (k:Ext A B):xLoad B false 1 (.ref w 0 0)=some fv:=by
 rw [xo_ref,getC_ext h.gw k];rfl
def Found (A:Heap) (n h:Nat) (t:Pt) (r:Option (Ex × List V × Heap)):Prop:=∃ D,r=some (.ret,frOf n [(2,.ref h 0 0),(3,bl true)],D)∧Ext A D∧getC D h 0=some [Iz t.1,Iz t.2.1,Iz t.2.2]
theorem rdI_ext {H H':Heap} {v:V} {l:List InsD} (h:RdL 8 RdIns H v l) (k:Ext H H'):RdL 8 RdIns H' v l:=RdL.ext (P:=RdIns) RdIns.ext h k
theorem rdB_ext {H H':Heap} {v:V} {l:List BlkD} (h:RdL 2 RdBlk H v l) (k:Ext H H'):RdL 2 RdBlk H' v l:=RdL.ext (P:=RdBlk) RdBlk.ext h k
def resP:Option Pt→V
 | none=>.tup [.agg [Iz 0,Iz 0,Iz 0],.s (.bool false)]
 | some (i,b,k)=>.tup [.agg [Iz i,Iz b,Iz k],.s (.bool true)]
end Go.Proofs.YtamlbkalopefgaaR
set_option maxRecDepth 100000
namespace Go.Proofs.YtamlbkalopefgaaR
open Go.AM
structure BadT (CT:Nat→Option CFun):Prop where
 is':CT k_f7=some (.code s_f7)
 bad1:CT k_f63=some (.code s_f63)
 bad:CT k_f41=some (.code s_f41)
 con:CT k_f39=some (.code s_f39)
 idx:CT k_f62=some (.code s_f62)
def bnA (s:ShD) (x:InsD):Bool:=(((s.d && badS false x.d) || (s.f && badS false x.f)) || (s.a && badS true x.a)) || (s.b && badS true x.b)
section
variable {CT:Nat→Option CFun}
theorem badOne (hT:BadT CT) (base:Nat) (D:Heap) (op:Bool) (s:ByteArray):∃ E,callW CT (.fn k_f41 [] []) [.s (.bool op),.sl D.length 0 0 1 1] base (D ++ [Ob.cells 0 [Sb s]])=some (bl (badS op s),E)∧Ext D E:=by
 have hr:Rd (D ++ [Ob.cells 0 [Sb s]]) (.sl D.length 0 0 1 1) ([s].map Sb):=Rd.sl (getC_new D 0 [Sb s]) (off:=0) (n:=1) (by simp)
 obtain ⟨E,h1,h2⟩:=bad_fun hT.is' hT.bad1 hT.bad hT.con hT.idx base (D ++ [Ob.cells 0 [Sb s]]) op hr trivial (by simp)
 refine ⟨E,?_,(Ext.app _ _).trans h2⟩
 rw [h1]
 simp [bl]
set_option maxHeartbeats 8000000 in
theorem bn_r15 (hT:BadT CT) (base:Nat) {D0:Heap} (hb:base≤D0.length) {p q:Nat} {x:InsD} {av lv:V} {s:ShD} (h9_0:getC D0 p 0=some (insC x av lv)) (h10_0:getC D0 q 0=some s.c) {v0 v2 v4 v6 v8 v16 v17 v18 v35 v36 v37 v50 v51 v52:V}:
 ∃ D',evC (callW CT) itW base (.region R23_15 [] [64,65,66,67,68,69,70,71,72,73,74,75,76,77,78,79,80,81,82,83,84,85,86,87,88,89,90,91,92,93,94,95,96,97,98,99,100,101]) (frOf 140 [(0,v0),(2,v2),(4,v4),(6,v6),(8,v8),(9,.ref p 0 0),(10,.ref q 0 0),(16,v16),(17,v17),(18,v18),(35,v35),(36,v36),(37,v37),(50,v50),(51,v51),(52,v52)]) D0=some (.nrm,frOf 140 [(0,v0),(2,v2),(4,v4),(6,v6),(8,v8),(9,.ref p 0 0),(10,.ref q 0 0),(11,bl (bnA s x)),(16,v16),(17,v17),(18,v18),(35,v35),(36,v36),(37,v37),(50,v50),(51,v51),(52,v52)],D')∧Ext D0 D':=by
 have e_0:Ext D0 D0:=Ext.refl _
 simp only [insC,ShD.c] at h9_0 h10_0
 cases s_d:s.d with
 | false=>
   cases s_f:s.f with
   | false=>
     cases s_a:s.a with
     | false=>
       cases s_b:s.b with
       | false=>
         refine ⟨D0,?_,e_0⟩
         simp only [bnA,Iz,Sb,a_f23,s_f23_l0_b,s_f23_l1_b,s_f23_l2_b,aa,reduceIte,reduceCtorEq,Nat.reduceEqDiff,Nat.reduceLT,Nat.reduceLeDiff,Nat.reduceBEq,Nat.reduceAdd,Nat.reduceMul,h9_0,h10_0,s_d,s_f,s_a,s_b]
       | true=>
         obtain ⟨D1,c_1,x_1⟩:=badOne hT base D0 true x.b
         have e_1:=e_0.trans x_1
         have h9_1:=getC_ext h9_0 x_1
         have h10_1:=getC_ext h10_0 x_1
         simp only [bl,Sb] at c_1
         cases b_b:badS true x.b with
         | true=>
           rw [b_b] at c_1
           refine ⟨D1,?_,e_1⟩
           simp only [bnA,Iz,Sb,a_f23,s_f23_l0_b,s_f23_l1_b,s_f23_l2_b,aa,reduceIte,reduceCtorEq,Nat.reduceEqDiff,Nat.reduceLT,Nat.reduceLeDiff,Nat.reduceBEq,Nat.reduceAdd,Nat.reduceMul,h9_0,h10_0,s_d,s_f,s_a,s_b,b_b,c_1,h9_1,h10_1]
         | false=>
           rw [b_b] at c_1
           refine ⟨D1,?_,e_1⟩
           simp only [bnA,Iz,Sb,a_f23,s_f23_l0_b,s_f23_l1_b,s_f23_l2_b,aa,reduceIte,reduceCtorEq,Nat.reduceEqDiff,Nat.reduceLT,Nat.reduceLeDiff,Nat.reduceBEq,Nat.reduceAdd,Nat.reduceMul,h9_0,h10_0,s_d,s_f,s_a,s_b,b_b,c_1,h9_1,h10_1]
     | true=>
       obtain ⟨D1,c_1,x_1⟩:=badOne hT base D0 true x.a
       have e_1:=e_0.trans x_1
       have h9_1:=getC_ext h9_0 x_1
       have h10_1:=getC_ext h10_0 x_1
       simp only [bl,Sb] at c_1
       cases b_a:badS true x.a with
       | true=>
         rw [b_a] at c_1
         refine ⟨D1,?_,e_1⟩
         simp only [bnA,Iz,Sb,a_f23,s_f23_l0_b,s_f23_l1_b,s_f23_l2_b,aa,reduceIte,reduceCtorEq,Nat.reduceEqDiff,Nat.reduceLT,Nat.reduceLeDiff,Nat.reduceBEq,Nat.reduceAdd,Nat.reduceMul,h9_0,h10_0,s_d,s_f,s_a,b_a,c_1,h9_1,h10_1]
       | false=>
         rw [b_a] at c_1
         cases s_b:s.b with
         | false=>
           refine ⟨D1,?_,e_1⟩
           simp only [bnA,Iz,Sb,a_f23,s_f23_l0_b,s_f23_l1_b,s_f23_l2_b,aa,reduceIte,reduceCtorEq,Nat.reduceEqDiff,Nat.reduceLT,Nat.reduceLeDiff,Nat.reduceBEq,Nat.reduceAdd,Nat.reduceMul,h9_0,h10_0,s_d,s_f,s_a,b_a,c_1,h9_1,h10_1,s_b]
         | true=>
           obtain ⟨D2,c_2,x_2⟩:=badOne hT base D1 true x.b
           have e_2:=e_1.trans x_2
           have h9_2:=getC_ext h9_1 x_2
           have h10_2:=getC_ext h10_1 x_2
           simp only [bl,Sb] at c_2
           cases b_b:badS true x.b with
           | true=>
             rw [b_b] at c_2
             refine ⟨D2,?_,e_2⟩
             simp only [bnA,Iz,Sb,a_f23,s_f23_l0_b,s_f23_l1_b,s_f23_l2_b,aa,reduceIte,reduceCtorEq,Nat.reduceEqDiff,Nat.reduceLT,Nat.reduceLeDiff,Nat.reduceBEq,Nat.reduceAdd,Nat.reduceMul,h9_0,h10_0,s_d,s_f,s_a,b_a,c_1,h9_1,h10_1,s_b,b_b,c_2,h9_2,h10_2]
           | false=>
             rw [b_b] at c_2
             refine ⟨D2,?_,e_2⟩
             simp only [bnA,Iz,Sb,a_f23,s_f23_l0_b,s_f23_l1_b,s_f23_l2_b,aa,reduceIte,reduceCtorEq,Nat.reduceEqDiff,Nat.reduceLT,Nat.reduceLeDiff,Nat.reduceBEq,Nat.reduceAdd,Nat.reduceMul,h9_0,h10_0,s_d,s_f,s_a,b_a,c_1,h9_1,h10_1,s_b,b_b,c_2,h9_2,h10_2]
   | true=>
     obtain ⟨D1,c_1,x_1⟩:=badOne hT base D0 false x.f
     have e_1:=e_0.trans x_1
     have h9_1:=getC_ext h9_0 x_1
     have h10_1:=getC_ext h10_0 x_1
     simp only [bl,Sb] at c_1
     cases b_f:badS false x.f with
     | true=>
       rw [b_f] at c_1
       refine ⟨D1,?_,e_1⟩
       simp only [bnA,Iz,Sb,a_f23,s_f23_l0_b,s_f23_l1_b,s_f23_l2_b,aa,reduceIte,reduceCtorEq,Nat.reduceEqDiff,Nat.reduceLT,Nat.reduceLeDiff,Nat.reduceBEq,Nat.reduceAdd,Nat.reduceMul,h9_0,h10_0,s_d,s_f,b_f,c_1,h9_1,h10_1]
     | false=>
       rw [b_f] at c_1
       cases s_a:s.a with
       | false=>
         cases s_b:s.b with
         | false=>
           refine ⟨D1,?_,e_1⟩
           simp only [bnA,Iz,Sb,a_f23,s_f23_l0_b,s_f23_l1_b,s_f23_l2_b,aa,reduceIte,reduceCtorEq,Nat.reduceEqDiff,Nat.reduceLT,Nat.reduceLeDiff,Nat.reduceBEq,Nat.reduceAdd,Nat.reduceMul,h9_0,h10_0,s_d,s_f,b_f,c_1,h9_1,h10_1,s_a,s_b]
         | true=>
           obtain ⟨D2,c_2,x_2⟩:=badOne hT base D1 true x.b
           have e_2:=e_1.trans x_2
           have h9_2:=getC_ext h9_1 x_2
           have h10_2:=getC_ext h10_1 x_2
           simp only [bl,Sb] at c_2
           cases b_b:badS true x.b with
           | true=>
             rw [b_b] at c_2
             refine ⟨D2,?_,e_2⟩
             simp only [bnA,Iz,Sb,a_f23,s_f23_l0_b,s_f23_l1_b,s_f23_l2_b,aa,reduceIte,reduceCtorEq,Nat.reduceEqDiff,Nat.reduceLT,Nat.reduceLeDiff,Nat.reduceBEq,Nat.reduceAdd,Nat.reduceMul,h9_0,h10_0,s_d,s_f,b_f,c_1,h9_1,h10_1,s_a,s_b,b_b,c_2,h9_2,h10_2]
           | false=>
             rw [b_b] at c_2
             refine ⟨D2,?_,e_2⟩
             simp only [bnA,Iz,Sb,a_f23,s_f23_l0_b,s_f23_l1_b,s_f23_l2_b,aa,reduceIte,reduceCtorEq,Nat.reduceEqDiff,Nat.reduceLT,Nat.reduceLeDiff,Nat.reduceBEq,Nat.reduceAdd,Nat.reduceMul,h9_0,h10_0,s_d,s_f,b_f,c_1,h9_1,h10_1,s_a,s_b,b_b,c_2,h9_2,h10_2]
       | true=>
         obtain ⟨D2,c_2,x_2⟩:=badOne hT base D1 true x.a
         have e_2:=e_1.trans x_2
         have h9_2:=getC_ext h9_1 x_2
         have h10_2:=getC_ext h10_1 x_2
         simp only [bl,Sb] at c_2
         cases b_a:badS true x.a with
         | true=>
           rw [b_a] at c_2
           refine ⟨D2,?_,e_2⟩
           simp only [bnA,Iz,Sb,a_f23,s_f23_l0_b,s_f23_l1_b,s_f23_l2_b,aa,reduceIte,reduceCtorEq,Nat.reduceEqDiff,Nat.reduceLT,Nat.reduceLeDiff,Nat.reduceBEq,Nat.reduceAdd,Nat.reduceMul,h9_0,h10_0,s_d,s_f,b_f,c_1,h9_1,h10_1,s_a,b_a,c_2,h9_2,h10_2]
         | false=>
           rw [b_a] at c_2
           cases s_b:s.b with
           | false=>
             refine ⟨D2,?_,e_2⟩
             simp only [bnA,Iz,Sb,a_f23,s_f23_l0_b,s_f23_l1_b,s_f23_l2_b,aa,reduceIte,reduceCtorEq,Nat.reduceEqDiff,Nat.reduceLT,Nat.reduceLeDiff,Nat.reduceBEq,Nat.reduceAdd,Nat.reduceMul,h9_0,h10_0,s_d,s_f,b_f,c_1,h9_1,h10_1,s_a,b_a,c_2,h9_2,h10_2,s_b]
           | true=>
             obtain ⟨D3,c_3,x_3⟩:=badOne hT base D2 true x.b
             have e_3:=e_2.trans x_3
             have h9_3:=getC_ext h9_2 x_3
             have h10_3:=getC_ext h10_2 x_3
             simp only [bl,Sb] at c_3
             cases b_b:badS true x.b with
             | true=>
               rw [b_b] at c_3
               refine ⟨D3,?_,e_3⟩
               simp only [bnA,Iz,Sb,a_f23,s_f23_l0_b,s_f23_l1_b,s_f23_l2_b,aa,reduceIte,reduceCtorEq,Nat.reduceEqDiff,Nat.reduceLT,Nat.reduceLeDiff,Nat.reduceBEq,Nat.reduceAdd,Nat.reduceMul,h9_0,h10_0,s_d,s_f,b_f,c_1,h9_1,h10_1,s_a,b_a,c_2,h9_2,h10_2,s_b,b_b,c_3,h9_3,h10_3]
             | false=>
               rw [b_b] at c_3
               refine ⟨D3,?_,e_3⟩
               simp only [bnA,Iz,Sb,a_f23,s_f23_l0_b,s_f23_l1_b,s_f23_l2_b,aa,reduceIte,reduceCtorEq,Nat.reduceEqDiff,Nat.reduceLT,Nat.reduceLeDiff,Nat.reduceBEq,Nat.reduceAdd,Nat.reduceMul,h9_0,h10_0,s_d,s_f,b_f,c_1,h9_1,h10_1,s_a,b_a,c_2,h9_2,h10_2,s_b,b_b,c_3,h9_3,h10_3]
 | true=>
   obtain ⟨D1,c_1,x_1⟩:=badOne hT base D0 false x.d
   have e_1:=e_0.trans x_1
   have h9_1:=getC_ext h9_0 x_1
   have h10_1:=getC_ext h10_0 x_1
   simp only [bl,Sb] at c_1
   cases b_d:badS false x.d with
   | true=>
     rw [b_d] at c_1
     refine ⟨D1,?_,e_1⟩
     simp only [bnA,Iz,Sb,a_f23,s_f23_l0_b,s_f23_l1_b,s_f23_l2_b,aa,reduceIte,reduceCtorEq,Nat.reduceEqDiff,Nat.reduceLT,Nat.reduceLeDiff,Nat.reduceBEq,Nat.reduceAdd,Nat.reduceMul,h9_0,h10_0,s_d,b_d,c_1,h9_1,h10_1]
   | false=>
     rw [b_d] at c_1
     cases s_f:s.f with
     | false=>
       cases s_a:s.a with
       | false=>
         cases s_b:s.b with
         | false=>
           refine ⟨D1,?_,e_1⟩
           simp only [bnA,Iz,Sb,a_f23,s_f23_l0_b,s_f23_l1_b,s_f23_l2_b,aa,reduceIte,reduceCtorEq,Nat.reduceEqDiff,Nat.reduceLT,Nat.reduceLeDiff,Nat.reduceBEq,Nat.reduceAdd,Nat.reduceMul,h9_0,h10_0,s_d,b_d,c_1,h9_1,h10_1,s_f,s_a,s_b]
         | true=>
           obtain ⟨D2,c_2,x_2⟩:=badOne hT base D1 true x.b
           have e_2:=e_1.trans x_2
           have h9_2:=getC_ext h9_1 x_2
           have h10_2:=getC_ext h10_1 x_2
           simp only [bl,Sb] at c_2
           cases b_b:badS true x.b with
           | true=>
             rw [b_b] at c_2
             refine ⟨D2,?_,e_2⟩
             simp only [bnA,Iz,Sb,a_f23,s_f23_l0_b,s_f23_l1_b,s_f23_l2_b,aa,reduceIte,reduceCtorEq,Nat.reduceEqDiff,Nat.reduceLT,Nat.reduceLeDiff,Nat.reduceBEq,Nat.reduceAdd,Nat.reduceMul,h9_0,h10_0,s_d,b_d,c_1,h9_1,h10_1,s_f,s_a,s_b,b_b,c_2,h9_2,h10_2]
           | false=>
             rw [b_b] at c_2
             refine ⟨D2,?_,e_2⟩
             simp only [bnA,Iz,Sb,a_f23,s_f23_l0_b,s_f23_l1_b,s_f23_l2_b,aa,reduceIte,reduceCtorEq,Nat.reduceEqDiff,Nat.reduceLT,Nat.reduceLeDiff,Nat.reduceBEq,Nat.reduceAdd,Nat.reduceMul,h9_0,h10_0,s_d,b_d,c_1,h9_1,h10_1,s_f,s_a,s_b,b_b,c_2,h9_2,h10_2]
       | true=>
         obtain ⟨D2,c_2,x_2⟩:=badOne hT base D1 true x.a
         have e_2:=e_1.trans x_2
         have h9_2:=getC_ext h9_1 x_2
         have h10_2:=getC_ext h10_1 x_2
         simp only [bl,Sb] at c_2
         cases b_a:badS true x.a with
         | true=>
           rw [b_a] at c_2
           refine ⟨D2,?_,e_2⟩
           simp only [bnA,Iz,Sb,a_f23,s_f23_l0_b,s_f23_l1_b,s_f23_l2_b,aa,reduceIte,reduceCtorEq,Nat.reduceEqDiff,Nat.reduceLT,Nat.reduceLeDiff,Nat.reduceBEq,Nat.reduceAdd,Nat.reduceMul,h9_0,h10_0,s_d,b_d,c_1,h9_1,h10_1,s_f,s_a,b_a,c_2,h9_2,h10_2]
         | false=>
           rw [b_a] at c_2
           cases s_b:s.b with
           | false=>
             refine ⟨D2,?_,e_2⟩
             simp only [bnA,Iz,Sb,a_f23,s_f23_l0_b,s_f23_l1_b,s_f23_l2_b,aa,reduceIte,reduceCtorEq,Nat.reduceEqDiff,Nat.reduceLT,Nat.reduceLeDiff,Nat.reduceBEq,Nat.reduceAdd,Nat.reduceMul,h9_0,h10_0,s_d,b_d,c_1,h9_1,h10_1,s_f,s_a,b_a,c_2,h9_2,h10_2,s_b]
           | true=>
             obtain ⟨D3,c_3,x_3⟩:=badOne hT base D2 true x.b
             have e_3:=e_2.trans x_3
             have h9_3:=getC_ext h9_2 x_3
             have h10_3:=getC_ext h10_2 x_3
             simp only [bl,Sb] at c_3
             cases b_b:badS true x.b with
             | true=>
               rw [b_b] at c_3
               refine ⟨D3,?_,e_3⟩
               simp only [bnA,Iz,Sb,a_f23,s_f23_l0_b,s_f23_l1_b,s_f23_l2_b,aa,reduceIte,reduceCtorEq,Nat.reduceEqDiff,Nat.reduceLT,Nat.reduceLeDiff,Nat.reduceBEq,Nat.reduceAdd,Nat.reduceMul,h9_0,h10_0,s_d,b_d,c_1,h9_1,h10_1,s_f,s_a,b_a,c_2,h9_2,h10_2,s_b,b_b,c_3,h9_3,h10_3]
             | false=>
               rw [b_b] at c_3
               refine ⟨D3,?_,e_3⟩
               simp only [bnA,Iz,Sb,a_f23,s_f23_l0_b,s_f23_l1_b,s_f23_l2_b,aa,reduceIte,reduceCtorEq,Nat.reduceEqDiff,Nat.reduceLT,Nat.reduceLeDiff,Nat.reduceBEq,Nat.reduceAdd,Nat.reduceMul,h9_0,h10_0,s_d,b_d,c_1,h9_1,h10_1,s_f,s_a,b_a,c_2,h9_2,h10_2,s_b,b_b,c_3,h9_3,h10_3]
     | true=>
       obtain ⟨D2,c_2,x_2⟩:=badOne hT base D1 false x.f
       have e_2:=e_1.trans x_2
       have h9_2:=getC_ext h9_1 x_2
       have h10_2:=getC_ext h10_1 x_2
       simp only [bl,Sb] at c_2
       cases b_f:badS false x.f with
       | true=>
         rw [b_f] at c_2
         refine ⟨D2,?_,e_2⟩
         simp only [bnA,Iz,Sb,a_f23,s_f23_l0_b,s_f23_l1_b,s_f23_l2_b,aa,reduceIte,reduceCtorEq,Nat.reduceEqDiff,Nat.reduceLT,Nat.reduceLeDiff,Nat.reduceBEq,Nat.reduceAdd,Nat.reduceMul,h9_0,h10_0,s_d,b_d,c_1,h9_1,h10_1,s_f,b_f,c_2,h9_2,h10_2]
       | false=>
         rw [b_f] at c_2
         cases s_a:s.a with
         | false=>
           cases s_b:s.b with
           | false=>
             refine ⟨D2,?_,e_2⟩
             simp only [bnA,Iz,Sb,a_f23,s_f23_l0_b,s_f23_l1_b,s_f23_l2_b,aa,reduceIte,reduceCtorEq,Nat.reduceEqDiff,Nat.reduceLT,Nat.reduceLeDiff,Nat.reduceBEq,Nat.reduceAdd,Nat.reduceMul,h9_0,h10_0,s_d,b_d,c_1,h9_1,h10_1,s_f,b_f,c_2,h9_2,h10_2,s_a,s_b]
           | true=>
             obtain ⟨D3,c_3,x_3⟩:=badOne hT base D2 true x.b
             have e_3:=e_2.trans x_3
             have h9_3:=getC_ext h9_2 x_3
             have h10_3:=getC_ext h10_2 x_3
             simp only [bl,Sb] at c_3
             cases b_b:badS true x.b with
             | true=>
               rw [b_b] at c_3
               refine ⟨D3,?_,e_3⟩
               simp only [bnA,Iz,Sb,a_f23,s_f23_l0_b,s_f23_l1_b,s_f23_l2_b,aa,reduceIte,reduceCtorEq,Nat.reduceEqDiff,Nat.reduceLT,Nat.reduceLeDiff,Nat.reduceBEq,Nat.reduceAdd,Nat.reduceMul,h9_0,h10_0,s_d,b_d,c_1,h9_1,h10_1,s_f,b_f,c_2,h9_2,h10_2,s_a,s_b,b_b,c_3,h9_3,h10_3]
             | false=>
               rw [b_b] at c_3
               refine ⟨D3,?_,e_3⟩
               simp only [bnA,Iz,Sb,a_f23,s_f23_l0_b,s_f23_l1_b,s_f23_l2_b,aa,reduceIte,reduceCtorEq,Nat.reduceEqDiff,Nat.reduceLT,Nat.reduceLeDiff,Nat.reduceBEq,Nat.reduceAdd,Nat.reduceMul,h9_0,h10_0,s_d,b_d,c_1,h9_1,h10_1,s_f,b_f,c_2,h9_2,h10_2,s_a,s_b,b_b,c_3,h9_3,h10_3]
         | true=>
           obtain ⟨D3,c_3,x_3⟩:=badOne hT base D2 true x.a
           have e_3:=e_2.trans x_3
           have h9_3:=getC_ext h9_2 x_3
           have h10_3:=getC_ext h10_2 x_3
           simp only [bl,Sb] at c_3
           cases b_a:badS true x.a with
           | true=>
             rw [b_a] at c_3
             refine ⟨D3,?_,e_3⟩
             simp only [bnA,Iz,Sb,a_f23,s_f23_l0_b,s_f23_l1_b,s_f23_l2_b,aa,reduceIte,reduceCtorEq,Nat.reduceEqDiff,Nat.reduceLT,Nat.reduceLeDiff,Nat.reduceBEq,Nat.reduceAdd,Nat.reduceMul,h9_0,h10_0,s_d,b_d,c_1,h9_1,h10_1,s_f,b_f,c_2,h9_2,h10_2,s_a,b_a,c_3,h9_3,h10_3]
           | false=>
             rw [b_a] at c_3
             cases s_b:s.b with
             | false=>
               refine ⟨D3,?_,e_3⟩
               simp only [bnA,Iz,Sb,a_f23,s_f23_l0_b,s_f23_l1_b,s_f23_l2_b,aa,reduceIte,reduceCtorEq,Nat.reduceEqDiff,Nat.reduceLT,Nat.reduceLeDiff,Nat.reduceBEq,Nat.reduceAdd,Nat.reduceMul,h9_0,h10_0,s_d,b_d,c_1,h9_1,h10_1,s_f,b_f,c_2,h9_2,h10_2,s_a,b_a,c_3,h9_3,h10_3,s_b]
             | true=>
               obtain ⟨D4,c_4,x_4⟩:=badOne hT base D3 true x.b
               have e_4:=e_3.trans x_4
               have h9_4:=getC_ext h9_3 x_4
               have h10_4:=getC_ext h10_3 x_4
               simp only [bl,Sb] at c_4
               cases b_b:badS true x.b with
               | true=>
                 rw [b_b] at c_4
                 refine ⟨D4,?_,e_4⟩
                 simp only [bnA,Iz,Sb,a_f23,s_f23_l0_b,s_f23_l1_b,s_f23_l2_b,aa,reduceIte,reduceCtorEq,Nat.reduceEqDiff,Nat.reduceLT,Nat.reduceLeDiff,Nat.reduceBEq,Nat.reduceAdd,Nat.reduceMul,h9_0,h10_0,s_d,b_d,c_1,h9_1,h10_1,s_f,b_f,c_2,h9_2,h10_2,s_a,b_a,c_3,h9_3,h10_3,s_b,b_b,c_4,h9_4,h10_4]
               | false=>
                 rw [b_b] at c_4
                 refine ⟨D4,?_,e_4⟩
                 simp only [bnA,Iz,Sb,a_f23,s_f23_l0_b,s_f23_l1_b,s_f23_l2_b,aa,reduceIte,reduceCtorEq,Nat.reduceEqDiff,Nat.reduceLT,Nat.reduceLeDiff,Nat.reduceBEq,Nat.reduceAdd,Nat.reduceMul,h9_0,h10_0,s_d,b_d,c_1,h9_1,h10_1,s_f,b_f,c_2,h9_2,h10_2,s_a,b_a,c_3,h9_3,h10_3,s_b,b_b,c_4,h9_4,h10_4]
end
end Go.Proofs.YtamlbkalopefgaaR
set_option maxRecDepth 100000
namespace Go.Proofs.YtamlbkalopefgaaR
open Go.AM
structure ConT (CT:Nat→Option CFun):Prop where
 con:CT k_f42=some (.code s_f42)
 idx:CT k_f64=some (.code s_f64)
def hasE (l:List ByteArray):Bool:=l.any fun y=>(⟨#[]⟩:ByteArray).data.toList == y.data.toList
def bnB (v:Bool) (s:ShD) (x:InsD):Bool:=(v || (s.xs && (x.xs.any (badS true) || hasE x.xs))) || (s.ls && (x.ls.any (badS false) || hasE x.ls))
section
variable {CT:Nat→Option CFun}
theorem taleR_nob (fr:List V) (H:Heap) (os:List (Nat × E)) (kill:List Nat):taleR fr H os kill false=none:=rfl
theorem segL_nob (H:Heap) (o:Option St):segL H none o=o:=rfl
theorem segC_nob (call:CallF) (it:IterF) (base:Nat) (b:List AOper) (kill:List Nat) (H:Heap) (o:Option St):segC call it base b kill H none o=o:=rfl
theorem reqB_nob (b r:Bool):reqB (some und) b r=false:=rfl
theorem bn_r16a (base:Nat) (H:Heap) {v0 v2 v4 v6 v8 v9 v10 v16 v17 v18 v35 v36 v37 v50 v51 v52:V}:origRow (callW CT) itW base R23_16t11 [9,10,102,103,104,105,106,107,108,109,110,111,112,113,114,115,116,117,118,119,120,121,122,123,124,125,126,127,128,129,130] (frOf 140 [(0,v0),(2,v2),(4,v4),(6,v6),(8,v8),(9,v9),(10,v10),(16,v16),(17,v17),(18,v18),(35,v35),(36,v36),(37,v37),(50,v50),(51,v51),(52,v52),(103,V.s (Value.bool true)),(106,und),(110,und),(113,und)]) H=some (.nrm,frOf 140 [(0,v0),(2,v2),(4,v4),(6,v6),(8,v8),(11,V.s (Value.bool true)),(16,v16),(17,v17),(18,v18),(35,v35),(36,v36),(37,v37),(50,v50),(51,v51),(52,v52)],H):=by
 simp only [origRow,R23_16t11,R23_16t12,R23_16t13,R23_16t14,R23_16t15,R23_16t16,R23_16t17,R23_16t18,R23_16t19,R23_16t20,R23_16t21,R23_16t22,R23_16p11,R23_16p12,R23_16p13,R23_16p14,R23_16p15,R23_16p16,R23_16p17,R23_16p18,R23_16p19,R23_16p20,R23_16p21,List.cons_append,List.nil_append,aa,reduceIte,reduceCtorEq,Nat.reduceEqDiff,Nat.reduceLT,Nat.reduceLeDiff,Nat.reduceBEq,Nat.reduceAdd,Nat.reduceMul,evC_ops,evOps_nil,evOps_cons,evOps_guard,opK_bool,wantV_bool,wantV_und,put_some,evOp_pick,pickR,op_move,op_un,ev_t,ev_c,resK_some]
theorem bn_r16b (base:Nat) (H:Heap) {v0 v2 v4 v6 v8 v16 v17 v18 v35 v36 v37 v50 v51 v52:V}:origRow (callW CT) itW base R23_16t22 [9,10,102,103,104,105,106,107,108,109,110,111,112,113,114,115,116,117,118,119,120,121,122,123,124,125,126,127,128,129,130] (frOf 140 [(0,v0),(2,v2),(4,v4),(6,v6),(8,v8),(16,v16),(17,v17),(18,v18),(35,v35),(36,v36),(37,v37),(50,v50),(51,v51),(52,v52),(117,V.s (Value.bool true)),(120,und),(124,und),(127,und)]) H=some (.nrm,frOf 140 [(0,v0),(2,v2),(4,v4),(6,v6),(8,v8),(11,V.s (Value.bool true)),(16,v16),(17,v17),(18,v18),(35,v35),(36,v36),(37,v37),(50,v50),(51,v51),(52,v52)],H):=by
 simp only [origRow,R23_16t22,List.cons_append,List.nil_append,aa,reduceIte,reduceCtorEq,Nat.reduceEqDiff,Nat.reduceLT,Nat.reduceLeDiff,Nat.reduceBEq,Nat.reduceAdd,Nat.reduceMul,evC_ops,evOps_nil,evOps_cons,evOps_guard,opK_bool,wantV_bool,wantV_und,put_some,evOp_pick,pickR,op_move,op_un,ev_t,ev_c,resK_some]
set_option maxHeartbeats 8000000 in
theorem bn_r16 (hT:BadT CT) (hN:ConT CT) (base:Nat) {D0:Heap} (hb:base≤D0.length) {p q:Nat} {x:InsD} {av lv:V} {s:ShD} {v:Bool} (h9_0:getC D0 p 0=some (insC x av lv)) (h10_0:getC D0 q 0=some s.c) (hxs:Rd D0 av (x.xs.map Sb)) (hwx:Wide1 av) (hls:Rd D0 lv (x.ls.map Sb)) (hwl:Wide1 lv) (hnx:x.xs.length < 2 ^ 20) (hnl:x.ls.length < 2 ^ 20) {v0 v2 v4 v6 v8 v16 v17 v18 v35 v36 v37 v50 v51 v52:V}:
 ∃ D',evC (callW CT) itW base (.region R23_16 [] [9,10,102,103,104,105,106,107,108,109,110,111,112,113,114,115,116,117,118,119,120,121,122,123,124,125,126,127,128,129,130]) (frOf 140 [(0,v0),(2,v2),(4,v4),(6,v6),(8,v8),(9,.ref p 0 0),(10,.ref q 0 0),(11,bl v),(16,v16),(17,v17),(18,v18),(35,v35),(36,v36),(37,v37),(50,v50),(51,v51),(52,v52)]) D0=some (.nrm,frOf 140 [(0,v0),(2,v2),(4,v4),(6,v6),(8,v8),(11,bl (bnB v s x)),(16,v16),(17,v17),(18,v18),(35,v35),(36,v36),(37,v37),(50,v50),(51,v51),(52,v52)],D')∧Ext D0 D':=by
 have e_0:Ext D0 D0:=Ext.refl _
 simp only [insC,ShD.c] at h9_0 h10_0
 cases v with
 | true=>
   refine ⟨D0,?_,e_0⟩
   simp only [bnB,Iz,Sb,a_f23,s_f23_l0_b,s_f23_l1_b,s_f23_l2_b,aa,reduceIte,reduceCtorEq,Nat.reduceEqDiff,Nat.reduceLT,Nat.reduceLeDiff,Nat.reduceBEq,Nat.reduceAdd,Nat.reduceMul,bn_r16a,bn_r16b,reqB_nob,taleR_nob,segL_nob,segC_nob,h9_0,h10_0]
 | false=>
   cases s_xs:s.xs with
   | false=>
     cases s_ls:s.ls with
     | false=>
       refine ⟨D0,?_,e_0⟩
       simp only [bnB,Iz,Sb,a_f23,s_f23_l0_b,s_f23_l1_b,s_f23_l2_b,aa,reduceIte,reduceCtorEq,Nat.reduceEqDiff,Nat.reduceLT,Nat.reduceLeDiff,Nat.reduceBEq,Nat.reduceAdd,Nat.reduceMul,bn_r16a,bn_r16b,reqB_nob,taleR_nob,segL_nob,segC_nob,h9_0,h10_0,s_xs,s_ls]
     | true=>
       obtain ⟨D1,c_1,x_1⟩:=bad_fun hT.is' hT.bad1 hT.bad hT.con hT.idx base D0 false (hls.ext e_0) hwl (l:=x.ls) (by omega)
       have e_1:=e_0.trans x_1
       have h9_1:=getC_ext h9_0 x_1
       have h10_1:=getC_ext h10_0 x_1
       have k_1:=containsS_fun hN.con hN.idx base D1 (⟨#[]⟩:ByteArray) (hls.ext e_1) hwl (l:=x.ls) (by omega)
       have f_1:callW CT (.fn k_f42 [] []) [lv,.s (.string ⟨#[]⟩)] base D1=some (.s (.bool (hasE x.ls)),D1):=k_1
       cases b_ls:x.ls.any (badS false) with
       | true=>
         rw [b_ls] at c_1
         refine ⟨D1,?_,e_1⟩
         simp only [bnB,Iz,Sb,a_f23,s_f23_l0_b,s_f23_l1_b,s_f23_l2_b,aa,reduceIte,reduceCtorEq,Nat.reduceEqDiff,Nat.reduceLT,Nat.reduceLeDiff,Nat.reduceBEq,Nat.reduceAdd,Nat.reduceMul,bn_r16a,bn_r16b,reqB_nob,taleR_nob,segL_nob,segC_nob,h9_0,h10_0,s_xs,s_ls,b_ls,c_1,h9_1,h10_1]
       | false=>
         rw [b_ls] at c_1
         cases g_ls:hasE x.ls with
         | true=>
           rw [g_ls] at f_1
           refine ⟨D1,?_,e_1⟩
           simp only [bnB,Iz,Sb,a_f23,s_f23_l0_b,s_f23_l1_b,s_f23_l2_b,aa,reduceIte,reduceCtorEq,Nat.reduceEqDiff,Nat.reduceLT,Nat.reduceLeDiff,Nat.reduceBEq,Nat.reduceAdd,Nat.reduceMul,bn_r16a,bn_r16b,reqB_nob,taleR_nob,segL_nob,segC_nob,h9_0,h10_0,s_xs,s_ls,b_ls,c_1,h9_1,h10_1,g_ls,f_1]
         | false=>
           rw [g_ls] at f_1
           refine ⟨D1,?_,e_1⟩
           simp only [bnB,Iz,Sb,a_f23,s_f23_l0_b,s_f23_l1_b,s_f23_l2_b,aa,reduceIte,reduceCtorEq,Nat.reduceEqDiff,Nat.reduceLT,Nat.reduceLeDiff,Nat.reduceBEq,Nat.reduceAdd,Nat.reduceMul,bn_r16a,bn_r16b,reqB_nob,taleR_nob,segL_nob,segC_nob,h9_0,h10_0,s_xs,s_ls,b_ls,c_1,h9_1,h10_1,g_ls,f_1]
   | true=>
     obtain ⟨D1,c_1,x_1⟩:=bad_fun hT.is' hT.bad1 hT.bad hT.con hT.idx base D0 true (hxs.ext e_0) hwx (l:=x.xs) (by omega)
     have e_1:=e_0.trans x_1
     have h9_1:=getC_ext h9_0 x_1
     have h10_1:=getC_ext h10_0 x_1
     have k_1:=containsS_fun hN.con hN.idx base D1 (⟨#[]⟩:ByteArray) (hxs.ext e_1) hwx (l:=x.xs) (by omega)
     have f_1:callW CT (.fn k_f42 [] []) [av,.s (.string ⟨#[]⟩)] base D1=some (.s (.bool (hasE x.xs)),D1):=k_1
     cases b_xs:x.xs.any (badS true) with
     | true=>
       rw [b_xs] at c_1
       refine ⟨D1,?_,e_1⟩
       simp only [bnB,Iz,Sb,a_f23,s_f23_l0_b,s_f23_l1_b,s_f23_l2_b,aa,reduceIte,reduceCtorEq,Nat.reduceEqDiff,Nat.reduceLT,Nat.reduceLeDiff,Nat.reduceBEq,Nat.reduceAdd,Nat.reduceMul,bn_r16a,bn_r16b,reqB_nob,taleR_nob,segL_nob,segC_nob,h9_0,h10_0,s_xs,b_xs,c_1,h9_1,h10_1]
     | false=>
       rw [b_xs] at c_1
       cases g_xs:hasE x.xs with
       | true=>
         rw [g_xs] at f_1
         refine ⟨D1,?_,e_1⟩
         simp only [bnB,Iz,Sb,a_f23,s_f23_l0_b,s_f23_l1_b,s_f23_l2_b,aa,reduceIte,reduceCtorEq,Nat.reduceEqDiff,Nat.reduceLT,Nat.reduceLeDiff,Nat.reduceBEq,Nat.reduceAdd,Nat.reduceMul,bn_r16a,bn_r16b,reqB_nob,taleR_nob,segL_nob,segC_nob,h9_0,h10_0,s_xs,b_xs,c_1,h9_1,h10_1,g_xs,f_1]
       | false=>
         rw [g_xs] at f_1
         cases s_ls:s.ls with
         | false=>
           refine ⟨D1,?_,e_1⟩
           simp only [bnB,Iz,Sb,a_f23,s_f23_l0_b,s_f23_l1_b,s_f23_l2_b,aa,reduceIte,reduceCtorEq,Nat.reduceEqDiff,Nat.reduceLT,Nat.reduceLeDiff,Nat.reduceBEq,Nat.reduceAdd,Nat.reduceMul,bn_r16a,bn_r16b,reqB_nob,taleR_nob,segL_nob,segC_nob,h9_0,h10_0,s_xs,b_xs,c_1,h9_1,h10_1,g_xs,f_1,s_ls]
         | true=>
           obtain ⟨D2,c_2,x_2⟩:=bad_fun hT.is' hT.bad1 hT.bad hT.con hT.idx base D1 false (hls.ext e_1) hwl (l:=x.ls) (by omega)
           have e_2:=e_1.trans x_2
           have h9_2:=getC_ext h9_1 x_2
           have h10_2:=getC_ext h10_1 x_2
           have k_2:=containsS_fun hN.con hN.idx base D2 (⟨#[]⟩:ByteArray) (hls.ext e_2) hwl (l:=x.ls) (by omega)
           have f_2:callW CT (.fn k_f42 [] []) [lv,.s (.string ⟨#[]⟩)] base D2=some (.s (.bool (hasE x.ls)),D2):=k_2
           cases b_ls:x.ls.any (badS false) with
           | true=>
             rw [b_ls] at c_2
             refine ⟨D2,?_,e_2⟩
             simp only [bnB,Iz,Sb,a_f23,s_f23_l0_b,s_f23_l1_b,s_f23_l2_b,aa,reduceIte,reduceCtorEq,Nat.reduceEqDiff,Nat.reduceLT,Nat.reduceLeDiff,Nat.reduceBEq,Nat.reduceAdd,Nat.reduceMul,bn_r16a,bn_r16b,reqB_nob,taleR_nob,segL_nob,segC_nob,h9_0,h10_0,s_xs,b_xs,c_1,h9_1,h10_1,g_xs,f_1,s_ls,b_ls,c_2,h9_2,h10_2]
           | false=>
             rw [b_ls] at c_2
             cases g_ls:hasE x.ls with
             | true=>
               rw [g_ls] at f_2
               refine ⟨D2,?_,e_2⟩
               simp only [bnB,Iz,Sb,a_f23,s_f23_l0_b,s_f23_l1_b,s_f23_l2_b,aa,reduceIte,reduceCtorEq,Nat.reduceEqDiff,Nat.reduceLT,Nat.reduceLeDiff,Nat.reduceBEq,Nat.reduceAdd,Nat.reduceMul,bn_r16a,bn_r16b,reqB_nob,taleR_nob,segL_nob,segC_nob,h9_0,h10_0,s_xs,b_xs,c_1,h9_1,h10_1,g_xs,f_1,s_ls,b_ls,c_2,h9_2,h10_2,g_ls,f_2]
             | false=>
               rw [g_ls] at f_2
               refine ⟨D2,?_,e_2⟩
               simp only [bnB,Iz,Sb,a_f23,s_f23_l0_b,s_f23_l1_b,s_f23_l2_b,aa,reduceIte,reduceCtorEq,Nat.reduceEqDiff,Nat.reduceLT,Nat.reduceLeDiff,Nat.reduceBEq,Nat.reduceAdd,Nat.reduceMul,bn_r16a,bn_r16b,reqB_nob,taleR_nob,segL_nob,segC_nob,h9_0,h10_0,s_xs,b_xs,c_1,h9_1,h10_1,g_xs,f_1,s_ls,b_ls,c_2,h9_2,h10_2,g_ls,f_2]
end
end Go.Proofs.YtamlbkalopefgaaR
set_option maxRecDepth 100000
namespace Go.Proofs.YtamlbkalopefgaaR
open Go.AM
def bnI (i b:Nat) (k:Nat) (x:InsD):Option Pt:=if bnB (bnA (shp x.op) x) (shp x.op) x=true then some (i,b,k) else none
def bnBk (i:Nat) (b:Nat) (bl:BlkD):Option Pt:=if (!isName bl.label)=true then some (i,b,0) else srch (bnI i b) bl.code 0
def bnF (i:Nat) (f:FunD):Option Pt:=if (!isName f.name || f.ps.any fun s=>!isName s)=true then some (i,0,0) else srch (bnBk i) f.blocks 0
section
variable {CT:Nat→Option CFun}
theorem bn_l0 (hT:BadT CT) (hN:ConT CT) (base:Nat) {A A1:Heap} {w sm:Nat} {fv0:V} {fs0:List FunD} (hc:NC A w sm fv0 fs0) (h1:Ext A A1) (hb:base≤A.length) (hg:getC A1 A.length 0=some [Iz 0,Iz 0,Iz 0]) {v16 v35 cv:V} {i b:Nat} {n17 n18 n36 n37:Int} {l:List InsD} (hv:RdL 8 RdIns A cv l) (hn:l.length < 2 ^ 20) (hxs:∀ x∈l,x.xs.length < 2 ^ 20) (hls:∀ x∈l,x.ls.length < 2 ^ 20) {L:Nat} (hL:A1.length≤L) (hA1:A.length < A1.length):
 ∀ C,Ext A1 C→(srch (bnI i b) l 0=none∧∃ C',itW (evC (callW CT) itW base s_f23_l0) [] L (frOf 140 [(0,.ref w 0 0),(2,.ref A.length 0 0),(4,Iz i),(6,Iz b),(16,v16),(17,Iz n17),(18,Iz n18),(35,v35),(36,Iz n36),(37,Iz n37),(50,cv),(51,Iz l.length),(52,Iz 0)]) C=some (.ext 4,frOf 140 [(0,.ref w 0 0),(2,.ref A.length 0 0),(4,Iz i),(6,Iz b),(16,v16),(17,Iz n17),(18,Iz n18),(35,v35),(36,Iz n36),(37,Iz n37),(50,cv),(51,Iz l.length),(52,Iz l.length),(53,bl false)],C')∧Ext A1 C')∨∃ t,srch (bnI i b) l 0=some t∧Found A 140 A.length t (itW (evC (callW CT) itW base s_f23_l0) [] L (frOf 140 [(0,.ref w 0 0),(2,.ref A.length 0 0),(4,Iz i),(6,Iz b),(16,v16),(17,Iz n17),(18,Iz n18),(35,v35),(36,Iz n36),(37,Iz n37),(50,cv),(51,Iz l.length),(52,Iz 0)]) C):=by
 intro C0 hC0
 rcases it_srch l ins0 (bnI i b) (fun _ C=>Ext A1 C) (fun k C=>itW (evC (callW CT) itW base s_f23_l0) [] L (frOf 140 [(0,.ref w 0 0),(2,.ref A.length 0 0),(4,Iz i),(6,Iz b),(16,v16),(17,Iz n17),(18,Iz n18),(35,v35),(36,Iz n36),(37,Iz n37),(50,cv),(51,Iz l.length),(52,Iz k)]) C) (Found A 140 A.length) (by
  intro k C hk hE
  have hlt':((k:Int) < (l.length:Int)):=by omega
  have hwk:=w64 (n:=k) (by omega)
  have hle:=hE.le
  have hkx:=some_getD hk ins0
  obtain ⟨x,hxe⟩:∃ x,l.getD k ins0=x:=⟨_,rfl⟩
  rw [hxe] at hkx ⊢
  have hmem:=List.mem_of_getElem? hkx
  obtain ⟨a,r,a1,hr,a2,_⟩:=hv.at2 hkx
  have hEA:=h1.trans hE
  have ld:=a2 C hEA
  have hbC:base≤C.length:=by omega
  have hgg:∀ c,getC (C ++ [Ob.cells 0 c]) C.length 0=some c:=fun c=>getC_new C 0 c
  have hss:∀ c d,(C ++ [c]).set C.length d=C ++ [d]:=fun c d=>set_snoc C c d
  have eC:∀ c,Ext C (C ++ [Ob.cells 0 c]):=fun c=>Ext.app _ _
  have g2:∀ D,Ext A1 D→getC D A.length 0=some [Iz 0,Iz 0,Iz 0]:=fun D h=>getC_ext hg h
  obtain ⟨av,lv,rfl,q1,q2,q3,q4,_⟩:=hr
  have hav:=q1.one
  have hlv:=q3.one
  obtain ⟨C1,hC1⟩:∃ C1,C ++ [Ob.cells 0 (insC x av lv)]=C1:=⟨_,rfl⟩
  have e1:Ext C C1:=hC1 ▸ eC _
  have hl1:C1.length=C.length+1:=by rw [← hC1,len_snoc]
  have hmp:xLoad C1 false 1 (.ref w 0 1)=some (.mp sm):=by rw [xo_ref,getC_ext hc.gw (hEA.trans e1)];rfl
  have hmg:=get_I .u8 (Ext.at' (hEA.trans e1) hc.sh) (.agg (ShD.c ⟨false,false,false,false,false,false,false⟩)) false x.op
  rw [if_neg Bool.false_ne_true,shT_get] at hmg
  have hg1:getC C1 C.length 0=some (insC x av lv):=hC1 ▸ hgg _
  obtain ⟨C2,hC2⟩:∃ C2,C1 ++ [Ob.cells 0 (shp x.op).c]=C2:=⟨_,rfl⟩
  have e2:Ext C1 C2:=hC2 ▸ Ext.app _ _
  have hl2:C2.length=C.length+2:=by rw [← hC2,len_snoc,hl1]
  have hs1:∀ c d,(C1 ++ [c]).set C1.length d=C1 ++ [d]:=fun c d=>set_snoc C1 c d
  have hz1:∀ c,getC (C1 ++ [Ob.cells 0 c]) C1.length 0=some c:=fun c=>getC_new C1 0 c
  rw [hl1] at hs1 hz1
  have hb1:base≤C.length+1:=by omega
  have h9:=getC_ext hg1 e2
  have h10:getC C2 (C.length+1) 0=some (shp x.op).c:=by rw [← hC2];exact hz1 _
  obtain ⟨D1,r15,d1⟩:=bn_r15 hT base (D0:=C2) (by omega) (p:=C.length) (q:=C.length+1) (x:=x) (av:=av) (lv:=lv) (s:=shp x.op) h9 h10 (v0:=.ref w 0 0) (v2:=.ref A.length 0 0) (v4:=Iz i) (v6:=Iz b) (v8:=Iz k) (v16:=v16) (v17:=Iz n17) (v18:=Iz n18) (v35:=v35) (v36:=Iz n36) (v37:=Iz n37) (v50:=cv) (v51:=Iz l.length) (v52:=Iz k)
  have eX:=hEA.trans (e1.trans (e2.trans d1))
  obtain ⟨D2,r16,d2⟩:=bn_r16 hT hN base (D0:=D1) (by have:=eX.le;omega) (p:=C.length) (q:=C.length+1) (x:=x) (av:=av) (lv:=lv) (s:=shp x.op) (v:=bnA (shp x.op) x) (getC_ext h9 d1) (getC_ext h10 d1) (q1.ext eX) q2 (q3.ext eX) q4 (hxs x hmem) (hls x hmem) (v0:=.ref w 0 0) (v2:=.ref A.length 0 0) (v4:=Iz i) (v6:=Iz b) (v8:=Iz k) (v16:=v16) (v17:=Iz n17) (v18:=Iz n18) (v35:=v35) (v36:=Iz n36) (v37:=Iz n37) (v50:=cv) (v51:=Iz l.length) (v52:=Iz k)
  have eY:Ext A1 D2:=hE.trans (e1.trans (e2.trans (d1.trans d2)))
  unfold bnI
  have hgc:=g2 D2 eY
  simp only [insC] at ld hC1 hg1
  simp only [Iz,bl,ShD.c] at hmg hC2 r15 r16 hgc
  cases hq:bnB (bnA (shp x.op) x) (shp x.op) x with
  | false=>
    rw [hq] at r16
    refine .inl ⟨if_neg Bool.false_ne_true,trim L (frOf 140 [(0,.ref w 0 0),(2,.ref A.length 0 0),(4,Iz i),(6,Iz b),(16,v16),(17,Iz n17),(18,Iz n18),(35,v35),(36,Iz n36),(37,Iz n37),(50,cv),(51,Iz l.length),(52,Iz (k+1:Nat))]) D2,?_,eY.trim (by omega) _⟩
    rw [itW_step]
    simp only [Iz,bl,A23_0p0_0,A23_0p0_2,A23_0p0_3,X23_0,T23_0t1,X23_0t1,A23_0_0,A23_0_2,A23_0_3,T23_1,T23_2,T23_3p0,X23_3,X23_3t1,T23_3p2,X23_3t2,X23_3t3,T23_4p0,X23_4,X23_4t1,T23_4p2,X23_4t2,X23_4t3,X23_4t4,X23_4t5,T23_4t6,X23_4t6,T23_5p0,X23_5,X23_5t1,T23_5t2,X23_5t2,T23_6,T23_7,T23_8p0,X23_8,X23_8t1,T23_8p2,X23_8t2,X23_8t3,T23_9p0,X23_9,X23_9t1,T23_9t2,X23_9t2,T23_10p0,X23_10,X23_10t1,T23_10t2,X23_10t2,T23_11,T23_12,T23_13p0,X23_13,X23_13t1,T23_13p2,X23_13t2,X23_13t3,T23_14p0,X23_14,X23_14t1,X23_14t2,T23_17,T23_18p0,X23_18,X23_18t1,T23_18t2,X23_18t2,T23_19,s_f23_l0_b,s_f23_l0_ev,T23_20,s_f23_l1_b,s_f23_l1_ev,T23_21,s_f23_l2_b,s_f23_l2_ev,T23_22p0,X23_22,X23_22t1,T23_22t2,X23_22t2,aa,reduceIte,reduceCtorEq,Nat.reduceEqDiff,Nat.reduceLT,Nat.reduceLeDiff,Nat.reduceBEq,Nat.reduceAdd,Nat.reduceMul,ShD.c,hlt',a1,ld,hbC,hb1,hgg,hss,hs1,hz1,hav,hlv,Bool.and_self,hC1,hl1,hmp,hmg,hC2,hg1,r15,r16,hwk]
  | true=>
    rw [hq] at r16
    refine .inr ⟨(i,b,k),if_pos rfl,trim L (frOf 140 [(2,.ref A.length 0 0),(3,bl true)]) (D2.set A.length (.cells 0 [Iz i,Iz b,Iz k])),?_,?_,?_⟩
    ·rw [itW_step]
     simp only [Iz,bl,A23_0p0_0,A23_0p0_2,A23_0p0_3,X23_0,T23_0t1,X23_0t1,A23_0_0,A23_0_2,A23_0_3,T23_1,T23_2,T23_3p0,X23_3,X23_3t1,T23_3p2,X23_3t2,X23_3t3,T23_4p0,X23_4,X23_4t1,T23_4p2,X23_4t2,X23_4t3,X23_4t4,X23_4t5,T23_4t6,X23_4t6,T23_5p0,X23_5,X23_5t1,T23_5t2,X23_5t2,T23_6,T23_7,T23_8p0,X23_8,X23_8t1,T23_8p2,X23_8t2,X23_8t3,T23_9p0,X23_9,X23_9t1,T23_9t2,X23_9t2,T23_10p0,X23_10,X23_10t1,T23_10t2,X23_10t2,T23_11,T23_12,T23_13p0,X23_13,X23_13t1,T23_13p2,X23_13t2,X23_13t3,T23_14p0,X23_14,X23_14t1,X23_14t2,T23_17,T23_18p0,X23_18,X23_18t1,T23_18t2,X23_18t2,T23_19,s_f23_l0_b,s_f23_l0_ev,T23_20,s_f23_l1_b,s_f23_l1_ev,T23_21,s_f23_l2_b,s_f23_l2_ev,T23_22p0,X23_22,X23_22t1,T23_22t2,X23_22t2,aa,reduceIte,reduceCtorEq,Nat.reduceEqDiff,Nat.reduceLT,Nat.reduceLeDiff,Nat.reduceBEq,Nat.reduceAdd,Nat.reduceMul,ShD.c,hlt',a1,ld,hbC,hb1,hgg,hss,hs1,hz1,hav,hlv,Bool.and_self,hC1,hl1,hmp,hmg,hC2,hg1,r15,r16,hgc,hb]
    ·exact ((h1.trans eY).set (Nat.le_refl _) _).trim (by omega) _
    ·exact trim_get (getC_put (g2 _ eY)) (by omega)) C0 hC0 with ⟨e1,C,e2,e3⟩ | e
 ·refine .inl ⟨e1,trim L (frOf 140 [(0,.ref w 0 0),(2,.ref A.length 0 0),(4,Iz i),(6,Iz b),(16,v16),(17,Iz n17),(18,Iz n18),(35,v35),(36,Iz n36),(37,Iz n37),(50,cv),(51,Iz l.length),(52,Iz l.length),(53,bl false)]) C,?_,e3.trim (by omega) _⟩
  rw [cast0] at e2
  refine e2.trans ?_
  rw [itW_step]
  simp only [Iz,bl,a_f23,s_f23_l0_b,s_f23_l1_b,s_f23_l2_b,aa,reduceIte,reduceCtorEq,Nat.reduceEqDiff,Nat.reduceLT,Nat.reduceLeDiff,Nat.reduceBEq,Nat.reduceAdd,Nat.reduceMul,Int.lt_irrefl]
 ·rw [cast0] at e
  exact .inr e
theorem bn_l1 (hT:BadT CT) (hN:ConT CT) (base:Nat) {A A1:Heap} {w sm:Nat} {fv0:V} {fs0:List FunD} (hc:NC A w sm fv0 fs0) (h1:Ext A A1) (hb:base≤A.length) (hg:getC A1 A.length 0=some [Iz 0,Iz 0,Iz 0]) {v16 bv:V} {i:Nat} {n17 n18:Int} {l:List BlkD} (hv:RdL 2 RdBlk A bv l) (hn:l.length < 2 ^ 20) (hnc:∀ b∈l,b.code.length < 2 ^ 20) (hxs:∀ b∈l,∀ x∈b.code,x.xs.length < 2 ^ 20) (hls:∀ b∈l,∀ x∈b.code,x.ls.length < 2 ^ 20) {L:Nat} (hL:A1.length≤L) (hA1:A.length < A1.length):
 ∀ C,Ext A1 C→(srch (bnBk i) l 0=none∧∃ C',itW (evC (callW CT) itW base s_f23_l1) [] L (frOf 140 [(0,.ref w 0 0),(2,.ref A.length 0 0),(4,Iz i),(16,v16),(17,Iz n17),(18,Iz n18),(35,bv),(36,Iz l.length),(37,Iz 0)]) C=some (.ext 2,frOf 140 [(0,.ref w 0 0),(2,.ref A.length 0 0),(4,Iz i),(16,v16),(17,Iz n17),(18,Iz n18),(35,bv),(36,Iz l.length),(37,Iz l.length),(38,bl false)],C')∧Ext A1 C')∨∃ t,srch (bnBk i) l 0=some t∧Found A 140 A.length t (itW (evC (callW CT) itW base s_f23_l1) [] L (frOf 140 [(0,.ref w 0 0),(2,.ref A.length 0 0),(4,Iz i),(16,v16),(17,Iz n17),(18,Iz n18),(35,bv),(36,Iz l.length),(37,Iz 0)]) C):=by
 intro C0 hC0
 rcases it_srch l blk0 (bnBk i) (fun _ C=>Ext A1 C) (fun k C=>itW (evC (callW CT) itW base s_f23_l1) [] L (frOf 140 [(0,.ref w 0 0),(2,.ref A.length 0 0),(4,Iz i),(16,v16),(17,Iz n17),(18,Iz n18),(35,bv),(36,Iz l.length),(37,Iz k)]) C) (Found A 140 A.length) (by
  intro k C hk hE
  have hlt':((k:Int) < (l.length:Int)):=by omega
  have hwk:=w64 (n:=k) (by omega)
  have hle:=hE.le
  have hkx:=some_getD hk blk0
  obtain ⟨x,hxe⟩:∃ x,l.getD k blk0=x:=⟨_,rfl⟩
  rw [hxe] at hkx ⊢
  have hmem:=List.mem_of_getElem? hkx
  obtain ⟨a,r,a1,hr,a2,_⟩:=hv.at2 hkx
  have hEA:=h1.trans hE
  have ld:=a2 C hEA
  have hbC:base≤C.length:=by omega
  have hgg:∀ c,getC (C ++ [Ob.cells 0 c]) C.length 0=some c:=fun c=>getC_new C 0 c
  have hss:∀ c d,(C ++ [c]).set C.length d=C ++ [d]:=fun c d=>set_snoc C c d
  have eC:∀ c,Ext C (C ++ [Ob.cells 0 c]):=fun c=>Ext.app _ _
  have g2:∀ D,Ext A1 D→getC D A.length 0=some [Iz 0,Iz 0,Iz 0]:=fun D h=>getC_ext hg h
  obtain ⟨cv,rfl,hcv⟩:=hr
  have hcl:=(rdI_ext hcv (hEA.trans (eC [Sb x.label,cv]))).len
  have hco:=hcv.one
  have hl2:(C ++ [Ob.cells 0 [Sb x.label,cv]]).length=C.length+1:=by simp
  have hcal:=fun D=>is_fun CT hT.is' x.label base D
  unfold bnBk
  cases hq:isName x.label with
  | false=>
    rw [hq] at hcal
    refine .inr ⟨(i,k,0),if_pos rfl,trim L (frOf 140 [(2,.ref A.length 0 0),(3,bl true)]) ((C ++ [Ob.cells 0 [Sb x.label,cv]]).set A.length (.cells 0 [Iz i,Iz k,Iz 0])),?_,?_,?_⟩
    ·have hgc:=g2 (C ++ [Ob.cells 0 [Sb x.label,cv]]) (hE.trans (eC _))
     rw [itW_step]
     simp only [Iz,bl] at hgc hcal
     simp only [Iz,bl,a_f23,s_f23_l0_b,s_f23_l1_b,s_f23_l2_b,aa,reduceIte,reduceCtorEq,Nat.reduceEqDiff,Nat.reduceLT,Nat.reduceLeDiff,Nat.reduceBEq,Nat.reduceAdd,Nat.reduceMul,hlt',a1,ld,hbC,hgg,hss,hco,Bool.and_self,hcl,hcal,hgc,hb]
    ·exact ((hEA.trans (eC _)).set (Nat.le_refl _) _).trim (by omega) _
    ·exact trim_get (getC_put (g2 _ (hE.trans (eC _)))) (by omega)
  | true=>
    rw [hq] at hcal
    simp only [bl] at hcal
    rw [if_neg (show ¬ (!true)=true by decide)]
    have hin:=bn_l0 (CT:=CT) hT hN base hc h1 hb hg (v16:=v16) (v35:=bv) (i:=i) (b:=k) (n17:=n17) (n18:=n18) (n36:=l.length) (n37:=k) hcv (hnc x hmem) (hxs x hmem) (hls x hmem) (L:=(C ++ [Ob.cells 0 [Sb x.label,cv]]).length) (by rw [len_snoc];omega) hA1 (C ++ [Ob.cells 0 [Sb x.label,cv]]) (hE.trans (eC _))
    rw [hl2] at hin
    rcases hin with ⟨z1,C2,z2,z3⟩ | ⟨t,z1,D,z2,z3,z4⟩
    ·refine .inl ⟨z1,trim L (frOf 140 [(0,.ref w 0 0),(2,.ref A.length 0 0),(4,Iz i),(16,v16),(17,Iz n17),(18,Iz n18),(35,bv),(36,Iz l.length),(37,Iz (k+1:Nat))]) C2,?_,z3.trim (by omega) _⟩
     rw [itW_step]
     simp only [Iz,bl] at z2
     simp only [Iz,bl,a_f23,s_f23_l0_b,s_f23_l1_b,s_f23_l2_b,aa,reduceIte,reduceCtorEq,Nat.reduceEqDiff,Nat.reduceLT,Nat.reduceLeDiff,Nat.reduceBEq,Nat.reduceAdd,Nat.reduceMul,hlt',a1,ld,hbC,hgg,hss,hco,Bool.and_self,hcl,hcal,hl2,z2,hwk]
    ·refine .inr ⟨t,z1,trim L (frOf 140 [(2,.ref A.length 0 0),(3,bl true)]) D,?_,z3.trim (by omega) _,trim_get z4 (by omega)⟩
     rw [itW_step]
     simp only [Iz,bl] at z2
     simp only [Iz,bl,a_f23,s_f23_l0_b,s_f23_l1_b,s_f23_l2_b,aa,reduceIte,reduceCtorEq,Nat.reduceEqDiff,Nat.reduceLT,Nat.reduceLeDiff,Nat.reduceBEq,Nat.reduceAdd,Nat.reduceMul,hlt',a1,ld,hbC,hgg,hss,hco,Bool.and_self,hcl,hcal,hl2,z2]) C0 hC0 with ⟨e1,C,e2,e3⟩ | e
 ·refine .inl ⟨e1,trim L (frOf 140 [(0,.ref w 0 0),(2,.ref A.length 0 0),(4,Iz i),(16,v16),(17,Iz n17),(18,Iz n18),(35,bv),(36,Iz l.length),(37,Iz l.length),(38,bl false)]) C,?_,e3.trim (by omega) _⟩
  rw [cast0] at e2
  refine e2.trans ?_
  rw [itW_step]
  simp only [Iz,bl,a_f23,s_f23_l0_b,s_f23_l1_b,s_f23_l2_b,aa,reduceIte,reduceCtorEq,Nat.reduceEqDiff,Nat.reduceLT,Nat.reduceLeDiff,Nat.reduceBEq,Nat.reduceAdd,Nat.reduceMul,Int.lt_irrefl]
 ·rw [cast0] at e
  exact .inr e
theorem bn_l2 (hT:BadT CT) (hN:ConT CT) (base:Nat) {A A1:Heap} {w sm:Nat} {fv0:V} {fs0:List FunD} (hc:NC A w sm fv0 fs0) (h1:Ext A A1) (hb:base≤A.length) (hg:getC A1 A.length 0=some [Iz 0,Iz 0,Iz 0]) {fv:V} {l:List FunD} (hv:RdL 3 RdFun A fv l) (hn:l.length < 2 ^ 20) (h1':CT k_f40=some (.code s_f40)) (hps:∀ f∈l,f.ps.length < 2 ^ 20) (hnb:∀ f∈l,f.blocks.length < 2 ^ 20) (hnc:∀ f∈l,∀ b∈f.blocks,b.code.length < 2 ^ 20) (hxs:∀ f∈l,∀ b∈f.blocks,∀ x∈b.code,x.xs.length < 2 ^ 20) (hls:∀ f∈l,∀ b∈f.blocks,∀ x∈b.code,x.ls.length < 2 ^ 20) {L:Nat} (hL:A1.length≤L) (hA1:A.length < A1.length):
 ∀ C,Ext A1 C→(srch (bnF) l 0=none∧∃ C',itW (evC (callW CT) itW base s_f23_l2) [] L (frOf 140 [(0,.ref w 0 0),(2,.ref A.length 0 0),(16,fv),(17,Iz l.length),(18,Iz 0)]) C=some (.ext 0,frOf 140 [(0,.ref w 0 0),(2,.ref A.length 0 0),(16,fv),(17,Iz l.length),(18,Iz l.length),(19,bl false)],C')∧Ext A1 C')∨∃ t,srch (bnF) l 0=some t∧Found A 140 A.length t (itW (evC (callW CT) itW base s_f23_l2) [] L (frOf 140 [(0,.ref w 0 0),(2,.ref A.length 0 0),(16,fv),(17,Iz l.length),(18,Iz 0)]) C):=by
 intro C0 hC0
 rcases it_srch l fun0 (bnF) (fun _ C=>Ext A1 C) (fun k C=>itW (evC (callW CT) itW base s_f23_l2) [] L (frOf 140 [(0,.ref w 0 0),(2,.ref A.length 0 0),(16,fv),(17,Iz l.length),(18,Iz k)]) C) (Found A 140 A.length) (by
  intro k C hk hE
  have hlt':((k:Int) < (l.length:Int)):=by omega
  have hwk:=w64 (n:=k) (by omega)
  have hle:=hE.le
  have hkx:=some_getD hk fun0
  obtain ⟨x,hxe⟩:∃ x,l.getD k fun0=x:=⟨_,rfl⟩
  rw [hxe] at hkx ⊢
  have hmem:=List.mem_of_getElem? hkx
  obtain ⟨a,r,a1,hr,a2,_⟩:=hv.at2 hkx
  have hEA:=h1.trans hE
  have ld:=a2 C hEA
  have hbC:base≤C.length:=by omega
  have hgg:∀ c,getC (C ++ [Ob.cells 0 c]) C.length 0=some c:=fun c=>getC_new C 0 c
  have hss:∀ c d,(C ++ [c]).set C.length d=C ++ [d]:=fun c d=>set_snoc C c d
  have eC:∀ c,Ext C (C ++ [Ob.cells 0 c]):=fun c=>Ext.app _ _
  have g2:∀ D,Ext A1 D→getC D A.length 0=some [Iz 0,Iz 0,Iz 0]:=fun D h=>getC_ext hg h
  obtain ⟨pv,bv,rfl,p1,p2,p3,hbv⟩:=hr
  have hpo:=p1.one
  have hbo:=hbv.one
  have hl2:(C ++ [Ob.cells 0 [Sb x.name,pv,bv]]).length=C.length+1:=by simp
  have hcal:=fun D=>is_fun CT hT.is' x.name base D
  unfold bnF
  cases hq:isName x.name with
  | false=>
    rw [hq] at hcal
    refine .inr ⟨(k,0,0),if_pos rfl,trim L (frOf 140 [(2,.ref A.length 0 0),(3,bl true)]) ((C ++ [Ob.cells 0 [Sb x.name,pv,bv]]).set A.length (.cells 0 [Iz k,Iz 0,Iz 0])),?_,?_,?_⟩
    ·have hgc:=g2 (C ++ [Ob.cells 0 [Sb x.name,pv,bv]]) (hE.trans (eC _))
     rw [itW_step]
     simp only [Iz,bl] at hgc hcal
     simp only [Iz,bl,a_f23,s_f23_l0_b,s_f23_l1_b,s_f23_l2_b,aa,reduceIte,reduceCtorEq,Nat.reduceEqDiff,Nat.reduceLT,Nat.reduceLeDiff,Nat.reduceBEq,Nat.reduceAdd,Nat.reduceMul,hlt',a1,ld,hbC,hgg,hss,hpo,hbo,Bool.and_self,hcal,hgc,hb]
    ·exact ((hEA.trans (eC _)).set (Nat.le_refl _) _).trim (by omega) _
    ·exact trim_get (getC_put (g2 _ (hE.trans (eC _)))) (by omega)
  | true=>
    rw [hq] at hcal
    obtain ⟨C3,hcon,e3⟩:=conS_fun hT.con hT.idx base (C ++ [Ob.cells 0 [Sb x.name,pv,bv]]) (f:=.fn k_f40 [] []) (p:=fun s=>!isName s) (p1.ext (hEA.trans (eC _))) p2 (fun s _ D _=>⟨D,badName1_fun hT.is' h1' base D s,Ext.refl D⟩) (by have:=hps x hmem;omega)
    have hl3:=e3.le
    rw [hl2] at hl3
    have hgg3:=getC_ext (hgg [Sb x.name,pv,bv]) e3
    have hE3:=hE.trans ((eC _).trans e3)
    cases hq2:x.ps.any (fun s=>!isName s) with
    | true=>
      rw [hq2] at hcon
      refine .inr ⟨(k,0,0),if_pos rfl,trim L (frOf 140 [(2,.ref A.length 0 0),(3,bl true)]) (C3.set A.length (.cells 0 [Iz k,Iz 0,Iz 0])),?_,?_,?_⟩
      ·have hgc:=g2 C3 hE3
       rw [itW_step]
       simp only [Iz,bl] at hgc hcal hcon
       simp only [Iz,bl,a_f23,s_f23_l0_b,s_f23_l1_b,s_f23_l2_b,aa,reduceIte,reduceCtorEq,Nat.reduceEqDiff,Nat.reduceLT,Nat.reduceLeDiff,Nat.reduceBEq,Nat.reduceAdd,Nat.reduceMul,hlt',a1,ld,hbC,hgg,hss,hpo,hbo,Bool.and_self,hcal,hcon,hgc,hb]
      ·exact ((h1.trans hE3).set (Nat.le_refl _) _).trim (by omega) _
      ·exact trim_get (getC_put (g2 _ hE3)) (by omega)
    | false=>
      rw [hq2] at hcon
      rw [if_neg (show ¬ (!true || false)=true by decide)]
      have hbl:=(rdB_ext hbv (h1.trans hE3)).len
      have hin:=bn_l1 (CT:=CT) hT hN base hc h1 hb hg (v16:=fv) (i:=k) (n17:=l.length) (n18:=k) hbv (hnb x hmem) (hnc x hmem) (hxs x hmem) (hls x hmem) (L:=C3.length) (by have:=hE3.le;omega) hA1 C3 hE3
      simp only [Iz,bl] at hcal hcon
      rcases hin with ⟨z1,C2,z2,z3⟩ | ⟨t,z1,D,z2,z3,z4⟩
      ·refine .inl ⟨z1,trim L (frOf 140 [(0,.ref w 0 0),(2,.ref A.length 0 0),(16,fv),(17,Iz l.length),(18,Iz (k+1:Nat))]) C2,?_,z3.trim (by omega) _⟩
       rw [itW_step]
       simp only [Iz,bl] at z2
       simp only [Iz,bl,a_f23,s_f23_l0_b,s_f23_l1_b,s_f23_l2_b,aa,reduceIte,reduceCtorEq,Nat.reduceEqDiff,Nat.reduceLT,Nat.reduceLeDiff,Nat.reduceBEq,Nat.reduceAdd,Nat.reduceMul,hlt',a1,ld,hbC,hgg,hss,hpo,hbo,Bool.and_self,hcal,hcon,hgg3,hbl,z2,hwk]
      ·refine .inr ⟨t,z1,trim L (frOf 140 [(2,.ref A.length 0 0),(3,bl true)]) D,?_,z3.trim (by omega) _,trim_get z4 (by omega)⟩
       rw [itW_step]
       simp only [Iz,bl] at z2
       simp only [Iz,bl,a_f23,s_f23_l0_b,s_f23_l1_b,s_f23_l2_b,aa,reduceIte,reduceCtorEq,Nat.reduceEqDiff,Nat.reduceLT,Nat.reduceLeDiff,Nat.reduceBEq,Nat.reduceAdd,Nat.reduceMul,hlt',a1,ld,hbC,hgg,hss,hpo,hbo,Bool.and_self,hcal,hcon,hgg3,hbl,z2]) C0 hC0 with ⟨e1,C,e2,e3⟩ | e
 ·refine .inl ⟨e1,trim L (frOf 140 [(0,.ref w 0 0),(2,.ref A.length 0 0),(16,fv),(17,Iz l.length),(18,Iz l.length),(19,bl false)]) C,?_,e3.trim (by omega) _⟩
  rw [cast0] at e2
  refine e2.trans ?_
  rw [itW_step]
  simp only [Iz,bl,a_f23,s_f23_l0_b,s_f23_l1_b,s_f23_l2_b,aa,reduceIte,reduceCtorEq,Nat.reduceEqDiff,Nat.reduceLT,Nat.reduceLeDiff,Nat.reduceBEq,Nat.reduceAdd,Nat.reduceMul,Int.lt_irrefl]
 ·rw [cast0] at e
  exact .inr e
theorem badName_fun (hT:CT k_f23=some (.code s_f23)) (h1':CT k_f40=some (.code s_f40)) (hB:BadT CT) (hN:ConT CT) (base:Nat) {A:Heap} (hb:base≤A.length) {w sm:Nat} {fv:V} {fs:List FunD} (hc:NC A w sm fv fs):
 ∃ H',callW CT (.fn k_f23 [] []) [.ref w 0 0] base A=some (resP (srch bnF fs 0),H')∧Ext A H':=by
 have e1:Ext A (A ++ [Ob.cells 0 [Iz 0,Iz 0,Iz 0]]):=Ext.app _ _
 have x1:=hc.load e1
 have hl:=(hc.rd.ext e1).len
 have g1:getC (A ++ [Ob.cells 0 [Iz 0,Iz 0,Iz 0]]) A.length 0=some [Iz 0,Iz 0,Iz 0]:=getC_new A 0 _
 have hl1:(A ++ [Ob.cells 0 [Iz 0,Iz 0,Iz 0]]).length=A.length+1:=by simp
 rcases bn_l2 (CT:=CT) hB hN base hc e1 hb g1 hc.rd hc.sml.n h1' hc.sml.ps hc.sml.nb hc.sml.nc hc.sml.xs hc.sml.ls (L:=A.length+1) (by omega) (by omega) (A ++ [Ob.cells 0 [Iz 0,Iz 0,Iz 0]]) (Ext.refl _) with ⟨q1,C,q2,q3⟩ | ⟨⟨i,b,k⟩,q1,D,q2,q3,q4⟩
 ·have g2:=getC_ext g1 q3
  have g3:=getC_put (c':=[Iz 0,Iz 0,Iz 0]) g2
  refine ⟨C.set A.length (.cells 0 [Iz 0,Iz 0,Iz 0]),callW_fnA (c:=s_f23) (k:=1) hT rfl (by decide) s_f23_first ?_,(e1.trans q3).set (Nat.le_refl _) _⟩
  rw [q1]
  have xR:loadV (C.set A.length (.cells 0 [Iz 0,Iz 0,Iz 0])) true 3 (.ref A.length 0 0)=some (.agg [Iz 0,Iz 0,Iz 0]):=by
   show xLoad _ true 3 _=_
   rw [xo_ref,g3];rfl
  simp only [Iz,bl] at x1 hl hl1 q2 g2 xR
  simp only [Iz,s_f23,a_f23,s_f23_l0_b,s_f23_l1_b,s_f23_l2_b,aa,reduceIte,reduceCtorEq,Nat.reduceEqDiff,Nat.reduceLT,Nat.reduceLeDiff,Nat.reduceBEq,Nat.reduceAdd,Nat.reduceMul,x1,hl,hl1,q2,g2,hb]
  rw [xR]
  rfl
 ·refine ⟨D,callW_fnA (c:=s_f23) (k:=1) hT rfl (by decide) s_f23_first ?_,q3⟩
  rw [q1]
  have xR:loadV D true 3 (.ref A.length 0 0)=some (.agg [Iz i,Iz b,Iz k]):=by
   show xLoad _ true 3 _=_
   rw [xo_ref,q4];rfl
  simp only [Iz,bl] at x1 hl hl1 q2 xR
  simp only [Iz,s_f23,a_f23,s_f23_l0_b,s_f23_l1_b,s_f23_l2_b,aa,reduceIte,reduceCtorEq,Nat.reduceEqDiff,Nat.reduceLT,Nat.reduceLeDiff,Nat.reduceBEq,Nat.reduceAdd,Nat.reduceMul,x1,hl,hl1,q2]
  rw [xR]
  rfl
end
end Go.Proofs.YtamlbkalopefgaaR
set_option maxRecDepth 100000
namespace Go.Proofs.YtamlbkalopefgaaR
open Go.AM
theorem trim_app2 {C:Heap} {m:Nat} (h:C.length≤m) (fr:List V) (G:Heap):∃ G',trim m fr (C ++ G)=C ++ G':=by
 rcases trim_or m fr (C ++ G) with e | ⟨e,_⟩
 ·exact ⟨G,e⟩
 ·exact ⟨G.take (m - C.length),by rw [e,List.take_append,List.take_of_length_le h]⟩
def cI (bs:List BlkD):Nat:=(bs.map fun b=>b.code.length).sum
def cF (fs:List FunD):Nat:=(fs.map fun f=>cI f.blocks).sum
theorem cI_take {bs:List BlkD} {k:Nat} {x:BlkD} (h:bs[k]?=some x):cI (bs.take (k+1))=cI (bs.take k)+x.code.length:=by
 rw [List.take_add_one,h,cI,List.map_append,List.sum_append];simp [cI]
theorem cF_take {fs:List FunD} {k:Nat} {x:FunD} (h:fs[k]?=some x):cF (fs.take (k+1))=cF (fs.take k)+cI x.blocks:=by
 rw [List.take_add_one,h,cF,List.map_append,List.sum_append];simp [cF]
def giI (G:Nat→Nat→Nat→Nat→InsD→Bool) (n i b:Nat) (k:Nat) (x:InsD):Option Pt:=if G (n+k) i b k x then some (i,b,k) else none
def giB (G:Nat→Nat→Nat→Nat→InsD→Bool) (n i:Nat) (bs:List BlkD) (b:Nat) (bl:BlkD):Option Pt:=srch (giI G (n+cI (bs.take b)) i b) bl.code 0
def giF (G:Nat→Nat→Nat→Nat→InsD→Bool) (fs:List FunD) (i:Nat) (f:FunD):Option Pt:=srch (giB G (cF (fs.take i)) i f.blocks) f.blocks 0
def gSrch (G:Nat→Nat→Nat→Nat→InsD→Bool) (fs:List FunD):Option Pt:=srch (giF G fs) fs 0
section
variable {CT:Nat→Option CFun}
def Yld (CT:Nat→Option CFun) (base:Nat) (y:V) (K:Nat→Heap) (KD:Nat→Nat→Nat→Nat→Heap) (n i b k:Nat) (r:List V) (g:Bool):Prop:=∀ G,∃ G',callW CT y [.agg [Iz i,Iz b,Iz k],.agg r] base (K n ++ G)=if g then some (bl false,KD n i b k ++ G') else some (bl true,K (n+1) ++ G')
theorem cd_l0 (base:Nat) {A:Heap} {K:Nat→Heap} {KD:Nat→Nat→Nat→Nat→Heap} {Gf:Nat→Nat→Nat→Nat→InsD→Bool} {y:V} {L0 L:Nat} (hL:L0≤L) (hK:∀ n,(K n).length=L0) (hKD:∀ n i b k,(KD n i b k).length=L0) (hE:∀ n,Ext A (K n)) (hb:base≤L0) {i b n0:Nat} {v13 v21 cv:V} {n14 n15 n22 n23:Int} {l:List InsD} (hv:RdL 8 RdIns A cv l) (hn:l.length < 2 ^ 20) (hy:∀ k x r,l[k]?=some x→RdIns A r x→Yld CT base y K KD (n0+k) i b k r (Gf (n0+k) i b k x)):
 ∀ C,(∃ G,C=K (n0) ++ G)→(srch (giI Gf n0 i b) l 0=none∧∃ G',itW (evC (callW CT) itW base s_f70_l0) [] L (frOf 47 [(0,y),(3,Iz i),(5,Iz b),(13,v13),(14,Iz n14),(15,Iz n15),(21,v21),(22,Iz n22),(23,Iz n23),(29,cv),(30,Iz l.length),(31,Iz 0)]) C=some (.ext 4,frOf 47 [(0,y),(3,Iz i),(5,Iz b),(13,v13),(14,Iz n14),(15,Iz n15),(21,v21),(22,Iz n22),(23,Iz n23),(29,cv),(30,Iz l.length),(31,Iz l.length),(32,bl false)],K (n0+l.length) ++ G'))∨∃ t,srch (giI Gf n0 i b) l 0=some t∧∃ fr n G',itW (evC (callW CT) itW base s_f70_l0) [] L (frOf 47 [(0,y),(3,Iz i),(5,Iz b),(13,v13),(14,Iz n14),(15,Iz n15),(21,v21),(22,Iz n22),(23,Iz n23),(29,cv),(30,Iz l.length),(31,Iz 0)]) C=some (.ret,fr,KD n t.1 t.2.1 t.2.2 ++ G'):=by
 intro C0 hC0
 rcases it_srch l ins0 (giI Gf n0 i b) (fun k C=>∃ G,C=K (n0+k) ++ G) (fun k C=>itW (evC (callW CT) itW base s_f70_l0) [] L (frOf 47 [(0,y),(3,Iz i),(5,Iz b),(13,v13),(14,Iz n14),(15,Iz n15),(21,v21),(22,Iz n22),(23,Iz n23),(29,cv),(30,Iz l.length),(31,Iz k)]) C) (fun t r=>∃ fr n G',r=some (.ret,fr,KD n t.1 t.2.1 t.2.2 ++ G')) (by
  intro k C hk ⟨G,hC'⟩
  have hC:=hC'.symm
  have hlt':((k:Int) < (l.length:Int)):=by omega
  have hwk:=w64 (n:=k) (by omega)
  have hkx:=some_getD hk ins0
  obtain ⟨x,hxe⟩:∃ x,l.getD k ins0=x:=⟨_,rfl⟩
  rw [hxe] at hkx ⊢
  have hmem:=List.mem_of_getElem? hkx
  obtain ⟨a,r,a1,hr,a2,_⟩:=hv.at2 hkx
  have hEA:Ext A C:=hC ▸ (hE _).trans ⟨G,rfl⟩
  have ld:=a2 C hEA
  have hbC:base≤C.length:=by rw [← hC,List.length_append,hK];omega
  have hgg:∀ c,getC (C ++ [Ob.cells 0 c]) C.length 0=some c:=fun c=>getC_new C 0 c
  have hss:∀ c d,(C ++ [c]).set C.length d=C ++ [d]:=fun c d=>set_snoc C c d
  have eC:∀ c,Ext C (C ++ [Ob.cells 0 c]):=fun c=>Ext.app _ _
  have eG:∀ c:List V,C ++ [Ob.cells 0 c]=K (n0+k) ++ (G ++ [Ob.cells 0 c]):=fun c=>by rw [← hC,List.append_assoc]
  obtain ⟨av,lv,rfl,q1,q2,q3,q4,_⟩:=id hr
  obtain ⟨G',y1⟩:=hy k x _ hkx hr (G ++ [Ob.cells 0 (insC x av lv)])
  rw [← eG] at y1
  have hav:=q1.one
  have hlv:=q3.one
  unfold giI
  cases hg:Gf (n0+k) i b k x with
  | false=>
    rw [hg,if_neg Bool.false_ne_true] at y1
    obtain ⟨G2,hG2⟩:=trim_app2 (C:=K (n0+(k+1))) (m:=L) (by rw [hK];exact hL) (frOf 47 [(0,y),(3,Iz i),(5,Iz b),(13,v13),(14,Iz n14),(15,Iz n15),(21,v21),(22,Iz n22),(23,Iz n23),(29,cv),(30,Iz l.length),(31,Iz (k+1:Nat))]) G'
    refine .inl ⟨if_neg Bool.false_ne_true,K (n0+(k+1)) ++ G2,?_,G2,rfl⟩
    simp only [insC,Iz,bl,Nat.add_assoc] at ld y1 hG2 ⊢
    rw [itW_step]
    simp only [Iz,bl,a_f70,s_f70_l0_b,s_f70_l1_b,s_f70_l2_b,aa,reduceIte,reduceCtorEq,Nat.reduceEqDiff,Nat.reduceLT,Nat.reduceLeDiff,Nat.reduceBEq,Nat.reduceAdd,Nat.reduceMul,hlt',a1,ld,hbC,hgg,hss,hav,hlv,Bool.and_self,y1,hwk,hG2]
  | true=>
    rw [hg,if_pos rfl] at y1
    obtain ⟨G2,hG2⟩:=trim_app2 (C:=KD (n0+k) i b k) (m:=L) (by rw [hKD];exact hL) (frOf 47 [(0,y),(3,Iz i),(5,Iz b),(13,v13),(14,Iz n14),(15,Iz n15),(21,v21),(22,Iz n22),(23,Iz n23),(29,cv),(30,Iz l.length),(31,Iz k),(43,bl true)]) G'
    refine .inr ⟨(i,b,k),if_pos rfl,frOf 47 [(0,y),(3,Iz i),(5,Iz b),(13,v13),(14,Iz n14),(15,Iz n15),(21,v21),(22,Iz n22),(23,Iz n23),(29,cv),(30,Iz l.length),(31,Iz k),(43,bl true)],n0+k,G2,?_⟩
    simp only [insC,Iz,bl] at ld y1 hG2 ⊢
    rw [itW_step]
    simp only [Iz,bl,a_f70,s_f70_l0_b,s_f70_l1_b,s_f70_l2_b,aa,reduceIte,reduceCtorEq,Nat.reduceEqDiff,Nat.reduceLT,Nat.reduceLeDiff,Nat.reduceBEq,Nat.reduceAdd,Nat.reduceMul,hlt',a1,ld,hbC,hgg,hss,hav,hlv,Bool.and_self,y1,hG2]) C0 (by exact hC0) with ⟨e1,C,e2,G,e3⟩ | e
 ·refine .inl ⟨e1,?_⟩
  rw [show n0+l.length=n0+l.length from rfl] at e3
  obtain ⟨G',hG'⟩:=trim_app2 (C:=K (n0+l.length)) (m:=L) (by rw [hK];exact hL) (frOf 47 [(0,y),(3,Iz i),(5,Iz b),(13,v13),(14,Iz n14),(15,Iz n15),(21,v21),(22,Iz n22),(23,Iz n23),(29,cv),(30,Iz l.length),(31,Iz l.length),(32,bl false)]) G
  refine ⟨G',?_⟩
  rw [cast0] at e2
  refine e2.trans ?_
  subst e3
  rw [itW_step]
  simp only [Iz,bl] at hG'
  simp only [Iz,bl,a_f70,s_f70_l0_b,s_f70_l1_b,s_f70_l2_b,aa,reduceIte,reduceCtorEq,Nat.reduceEqDiff,Nat.reduceLT,Nat.reduceLeDiff,Nat.reduceBEq,Nat.reduceAdd,Nat.reduceMul,Int.lt_irrefl,hG']
 ·rw [cast0] at e
  exact .inr e
theorem cd_l1 (base:Nat) {A:Heap} {K:Nat→Heap} {KD:Nat→Nat→Nat→Nat→Heap} {Gf:Nat→Nat→Nat→Nat→InsD→Bool} {y:V} {L0 L:Nat} (hL:L0≤L) (hK:∀ n,(K n).length=L0) (hKD:∀ n i b k,(KD n i b k).length=L0) (hE:∀ n,Ext A (K n)) (hb:base≤L0) {i n0:Nat} {v13 bv:V} {n14 n15:Int} {l:List BlkD} (hv:RdL 2 RdBlk A bv l) (hn:l.length < 2 ^ 20) (hnc:∀ b∈l,b.code.length < 2 ^ 20) (hy:∀ b x,l[b]?=some x→∀ k z r,x.code[k]?=some z→RdIns A r z→Yld CT base y K KD (n0+cI (l.take b)+k) i b k r (Gf (n0+cI (l.take b)+k) i b k z)):
 ∀ C,(∃ G,C=K (n0) ++ G)→(srch (giB Gf n0 i l) l 0=none∧∃ G',itW (evC (callW CT) itW base s_f70_l1) [] L (frOf 47 [(0,y),(3,Iz i),(13,v13),(14,Iz n14),(15,Iz n15),(21,bv),(22,Iz l.length),(23,Iz 0)]) C=some (.ext 2,frOf 47 [(0,y),(3,Iz i),(13,v13),(14,Iz n14),(15,Iz n15),(21,bv),(22,Iz l.length),(23,Iz l.length),(24,bl false)],K (n0+cI l) ++ G'))∨∃ t,srch (giB Gf n0 i l) l 0=some t∧∃ fr n G',itW (evC (callW CT) itW base s_f70_l1) [] L (frOf 47 [(0,y),(3,Iz i),(13,v13),(14,Iz n14),(15,Iz n15),(21,bv),(22,Iz l.length),(23,Iz 0)]) C=some (.ret,fr,KD n t.1 t.2.1 t.2.2 ++ G'):=by
 intro C0 hC0
 rcases it_srch l blk0 (giB Gf n0 i l) (fun k C=>∃ G,C=K (n0+cI (l.take k)) ++ G) (fun k C=>itW (evC (callW CT) itW base s_f70_l1) [] L (frOf 47 [(0,y),(3,Iz i),(13,v13),(14,Iz n14),(15,Iz n15),(21,bv),(22,Iz l.length),(23,Iz k)]) C) (fun t r=>∃ fr n G',r=some (.ret,fr,KD n t.1 t.2.1 t.2.2 ++ G')) (by
  intro k C hk ⟨G,hC'⟩
  have hC:=hC'.symm
  have hlt':((k:Int) < (l.length:Int)):=by omega
  have hwk:=w64 (n:=k) (by omega)
  have hkx:=some_getD hk blk0
  obtain ⟨x,hxe⟩:∃ x,l.getD k blk0=x:=⟨_,rfl⟩
  rw [hxe] at hkx ⊢
  have hmem:=List.mem_of_getElem? hkx
  obtain ⟨a,r,a1,hr,a2,_⟩:=hv.at2 hkx
  have hEA:Ext A C:=hC ▸ (hE _).trans ⟨G,rfl⟩
  have ld:=a2 C hEA
  have hbC:base≤C.length:=by rw [← hC,List.length_append,hK];omega
  have hgg:∀ c,getC (C ++ [Ob.cells 0 c]) C.length 0=some c:=fun c=>getC_new C 0 c
  have hss:∀ c d,(C ++ [c]).set C.length d=C ++ [d]:=fun c d=>set_snoc C c d
  have eC:∀ c,Ext C (C ++ [Ob.cells 0 c]):=fun c=>Ext.app _ _
  have eG:∀ c:List V,C ++ [Ob.cells 0 c]=K (n0+cI (l.take k)) ++ (G ++ [Ob.cells 0 c]):=fun c=>by rw [← hC,List.append_assoc]
  obtain ⟨cv,rfl,hcv⟩:=id hr
  have hcl:=(rdI_ext hcv (hEA.trans (eC [Sb x.label,cv]))).len
  have hco:=hcv.one
  have hct:=cI_take hkx
  have hl2:(C ++ [Ob.cells 0 [Sb x.label,cv]]).length=C.length+1:=by simp
  have hL1:L0≤C.length+1:=by rw [← hC,List.length_append,hK];omega
  have hin:=cd_l0 (CT:=CT) (Gf:=Gf) (y:=y) (v13:=v13) (v21:=bv) (i:=i) (b:=k) (n14:=n14) (n15:=n15) (n22:=l.length) (n23:=k) base (L:=C.length+1) hL1 hK hKD hE hb hcv (hnc x hmem) (n0:=n0+cI (l.take k)) (hy k x hkx) (C ++ [Ob.cells 0 [Sb x.label,cv]]) ⟨G ++ [Ob.cells 0 [Sb x.label,cv]],eG _⟩
  rw [show n0+cI (l.take k)+x.code.length=n0+cI (l.take (k+1)) by rw [hct];omega] at hin
  rcases hin with ⟨z1,G',z2⟩ | ⟨t,z1,fr,n,G',z2⟩
  ·obtain ⟨G2,hG2⟩:=trim_app2 (C:=K (n0+cI (l.take (k+1)))) (m:=L) (by rw [hK];exact hL) (frOf 47 [(0,y),(3,Iz i),(13,v13),(14,Iz n14),(15,Iz n15),(21,bv),(22,Iz l.length),(23,Iz (k+1:Nat))]) G'
   refine .inl ⟨z1,K (n0+cI (l.take (k+1))) ++ G2,?_,G2,rfl⟩
   simp only [Iz,bl] at z2 hG2 ld ⊢
   rw [itW_step]
   simp only [Iz,bl,a_f70,s_f70_l0_b,s_f70_l1_b,s_f70_l2_b,aa,reduceIte,reduceCtorEq,Nat.reduceEqDiff,Nat.reduceLT,Nat.reduceLeDiff,Nat.reduceBEq,Nat.reduceAdd,Nat.reduceMul,hlt',a1,ld,hbC,hgg,hss,hco,hcl,Bool.and_self,hl2,z2,hwk,hG2]
  ·obtain ⟨G2,hG2⟩:=trim_app2 (C:=KD n t.1 t.2.1 t.2.2) (m:=L) (by rw [hKD];exact hL) (killS [] fr) G'
   refine .inr ⟨t,z1,killS [] fr,n,G2,?_⟩
   simp only [Iz,bl] at z2 hG2 ld ⊢
   rw [itW_step]
   simp only [Iz,bl,a_f70,s_f70_l0_b,s_f70_l1_b,s_f70_l2_b,aa,reduceIte,reduceCtorEq,Nat.reduceEqDiff,Nat.reduceLT,Nat.reduceLeDiff,Nat.reduceBEq,Nat.reduceAdd,Nat.reduceMul,hlt',a1,ld,hbC,hgg,hss,hco,hcl,Bool.and_self,hl2,z2,hG2]) C0 (by rw [List.take_zero,show n0+cI []=n0 from rfl];exact hC0) with ⟨e1,C,e2,G,e3⟩ | e
 ·refine .inl ⟨e1,?_⟩
  rw [List.take_length] at e3
  obtain ⟨G',hG'⟩:=trim_app2 (C:=K (n0+cI l)) (m:=L) (by rw [hK];exact hL) (frOf 47 [(0,y),(3,Iz i),(13,v13),(14,Iz n14),(15,Iz n15),(21,bv),(22,Iz l.length),(23,Iz l.length),(24,bl false)]) G
  refine ⟨G',?_⟩
  rw [cast0] at e2
  refine e2.trans ?_
  subst e3
  rw [itW_step]
  simp only [Iz,bl] at hG'
  simp only [Iz,bl,a_f70,s_f70_l0_b,s_f70_l1_b,s_f70_l2_b,aa,reduceIte,reduceCtorEq,Nat.reduceEqDiff,Nat.reduceLT,Nat.reduceLeDiff,Nat.reduceBEq,Nat.reduceAdd,Nat.reduceMul,Int.lt_irrefl,hG']
 ·rw [cast0] at e
  exact .inr e
theorem cd_l2 (base:Nat) {A:Heap} {K:Nat→Heap} {KD:Nat→Nat→Nat→Nat→Heap} {Gf:Nat→Nat→Nat→Nat→InsD→Bool} {y:V} {L0 L:Nat} (hL:L0≤L) (hK:∀ n,(K n).length=L0) (hKD:∀ n i b k,(KD n i b k).length=L0) (hE:∀ n,Ext A (K n)) (hb:base≤L0) {fv:V} {l:List FunD} (hv:RdL 3 RdFun A fv l) (hn:l.length < 2 ^ 20) (hnb:∀ f∈l,f.blocks.length < 2 ^ 20) (hnc:∀ f∈l,∀ b∈f.blocks,b.code.length < 2 ^ 20) (hy:∀ i f,l[i]?=some f→∀ b x,f.blocks[b]?=some x→∀ k z r,x.code[k]?=some z→RdIns A r z→Yld CT base y K KD (cF (l.take i)+cI (f.blocks.take b)+k) i b k r (Gf (cF (l.take i)+cI (f.blocks.take b)+k) i b k z)):
 ∀ C,(∃ G,C=K (0) ++ G)→(srch (giF Gf l) l 0=none∧∃ G',itW (evC (callW CT) itW base s_f70_l2) [] L (frOf 47 [(0,y),(13,fv),(14,Iz l.length),(15,Iz 0)]) C=some (.ext 0,frOf 47 [(0,y),(13,fv),(14,Iz l.length),(15,Iz l.length),(16,bl false)],K (cF l) ++ G'))∨∃ t,srch (giF Gf l) l 0=some t∧∃ fr n G',itW (evC (callW CT) itW base s_f70_l2) [] L (frOf 47 [(0,y),(13,fv),(14,Iz l.length),(15,Iz 0)]) C=some (.ret,fr,KD n t.1 t.2.1 t.2.2 ++ G'):=by
 intro C0 hC0
 rcases it_srch l fun0 (giF Gf l) (fun k C=>∃ G,C=K (cF (l.take k)) ++ G) (fun k C=>itW (evC (callW CT) itW base s_f70_l2) [] L (frOf 47 [(0,y),(13,fv),(14,Iz l.length),(15,Iz k)]) C) (fun t r=>∃ fr n G',r=some (.ret,fr,KD n t.1 t.2.1 t.2.2 ++ G')) (by
  intro k C hk ⟨G,hC'⟩
  have hC:=hC'.symm
  have hlt':((k:Int) < (l.length:Int)):=by omega
  have hwk:=w64 (n:=k) (by omega)
  have hkx:=some_getD hk fun0
  obtain ⟨x,hxe⟩:∃ x,l.getD k fun0=x:=⟨_,rfl⟩
  rw [hxe] at hkx ⊢
  have hmem:=List.mem_of_getElem? hkx
  obtain ⟨a,r,a1,hr,a2,_⟩:=hv.at2 hkx
  have hEA:Ext A C:=hC ▸ (hE _).trans ⟨G,rfl⟩
  have ld:=a2 C hEA
  have hbC:base≤C.length:=by rw [← hC,List.length_append,hK];omega
  have hgg:∀ c,getC (C ++ [Ob.cells 0 c]) C.length 0=some c:=fun c=>getC_new C 0 c
  have hss:∀ c d,(C ++ [c]).set C.length d=C ++ [d]:=fun c d=>set_snoc C c d
  have eC:∀ c,Ext C (C ++ [Ob.cells 0 c]):=fun c=>Ext.app _ _
  have eG:∀ c:List V,C ++ [Ob.cells 0 c]=K (cF (l.take k)) ++ (G ++ [Ob.cells 0 c]):=fun c=>by rw [← hC,List.append_assoc]
  obtain ⟨pv,bv,rfl,q1,q2,q3,hbv⟩:=id hr
  have hpo:=q1.one
  have hbo:=hbv.one
  have hbl:=(rdB_ext hbv (hEA.trans (eC [Sb x.name,pv,bv]))).len
  have hct:=cF_take hkx
  have hl2:(C ++ [Ob.cells 0 [Sb x.name,pv,bv]]).length=C.length+1:=by simp
  have hL1:L0≤C.length+1:=by rw [← hC,List.length_append,hK];omega
  have hin:=cd_l1 (CT:=CT) (Gf:=Gf) (y:=y) (v13:=fv) (i:=k) (n14:=l.length) (n15:=k) base (L:=C.length+1) hL1 hK hKD hE hb hbv (hnb x hmem) (hnc x hmem) (n0:=cF (l.take k)) (hy k x hkx) (C ++ [Ob.cells 0 [Sb x.name,pv,bv]]) ⟨G ++ [Ob.cells 0 [Sb x.name,pv,bv]],eG _⟩
  rw [← hct] at hin
  rcases hin with ⟨z1,G',z2⟩ | ⟨t,z1,fr,n,G',z2⟩
  ·obtain ⟨G2,hG2⟩:=trim_app2 (C:=K (cF (l.take (k+1)))) (m:=L) (by rw [hK];exact hL) (frOf 47 [(0,y),(13,fv),(14,Iz l.length),(15,Iz (k+1:Nat))]) G'
   refine .inl ⟨z1,K (cF (l.take (k+1))) ++ G2,?_,G2,rfl⟩
   simp only [Iz,bl] at z2 hG2 ld ⊢
   rw [itW_step]
   simp only [Iz,bl,a_f70,s_f70_l0_b,s_f70_l1_b,s_f70_l2_b,aa,reduceIte,reduceCtorEq,Nat.reduceEqDiff,Nat.reduceLT,Nat.reduceLeDiff,Nat.reduceBEq,Nat.reduceAdd,Nat.reduceMul,hlt',a1,ld,hbC,hgg,hss,hpo,hbo,hbl,Bool.and_self,hl2,z2,hwk,hG2]
  ·obtain ⟨G2,hG2⟩:=trim_app2 (C:=KD n t.1 t.2.1 t.2.2) (m:=L) (by rw [hKD];exact hL) (killS [] fr) G'
   refine .inr ⟨t,z1,killS [] fr,n,G2,?_⟩
   simp only [Iz,bl] at z2 hG2 ld ⊢
   rw [itW_step]
   simp only [Iz,bl,a_f70,s_f70_l0_b,s_f70_l1_b,s_f70_l2_b,aa,reduceIte,reduceCtorEq,Nat.reduceEqDiff,Nat.reduceLT,Nat.reduceLeDiff,Nat.reduceBEq,Nat.reduceAdd,Nat.reduceMul,hlt',a1,ld,hbC,hgg,hss,hpo,hbo,hbl,Bool.and_self,hl2,z2,hG2]) C0 (by rw [List.take_zero,show cF []=0 from rfl];exact hC0) with ⟨e1,C,e2,G,e3⟩ | e
 ·refine .inl ⟨e1,?_⟩
  rw [List.take_length] at e3
  obtain ⟨G',hG'⟩:=trim_app2 (C:=K (cF l)) (m:=L) (by rw [hK];exact hL) (frOf 47 [(0,y),(13,fv),(14,Iz l.length),(15,Iz l.length),(16,bl false)]) G
  refine ⟨G',?_⟩
  rw [cast0] at e2
  refine e2.trans ?_
  subst e3
  rw [itW_step]
  simp only [Iz,bl] at hG'
  simp only [Iz,bl,a_f70,s_f70_l0_b,s_f70_l1_b,s_f70_l2_b,aa,reduceIte,reduceCtorEq,Nat.reduceEqDiff,Nat.reduceLT,Nat.reduceLeDiff,Nat.reduceBEq,Nat.reduceAdd,Nat.reduceMul,Int.lt_irrefl,hG']
 ·rw [cast0] at e
  exact .inr e
theorem code1_fun (hT:CT k_f70=some (.code s_f70)) (base:Nat) {A:Heap} {K:Nat→Heap} {KD:Nat→Nat→Nat→Nat→Heap} {Gf:Nat→Nat→Nat→Nat→InsD→Bool} {y:V} {L0:Nat} (hK:∀ n,(K n).length=L0) (hKD:∀ n i b k,(KD n i b k).length=L0) (hE:∀ n,Ext A (K n)) (hb:base≤L0) {w w1 sm:Nat} {fv:V} {fs:List FunD} (hc:NC A w sm fv fs) (hw:getC (K 0) w1 0=some [.ref w 0 0])
 (hy:∀ i f,fs[i]?=some f→∀ b x,f.blocks[b]?=some x→∀ k z r,x.code[k]?=some z→RdIns A r z→Yld CT base y K KD (cF (fs.take i)+cI (f.blocks.take b)+k) i b k r (Gf (cF (fs.take i)+cI (f.blocks.take b)+k) i b k z)):
 (gSrch Gf fs=none∧∃ G,callW CT (.fn k_f70 [] [.ref w1 0 0]) [y] base (K 0)=some (.tup [],K (cF fs) ++ G))∨∃ t,gSrch Gf fs=some t∧∃ n G,callW CT (.fn k_f70 [] [.ref w1 0 0]) [y] base (K 0)=some (.tup [],KD n t.1 t.2.1 t.2.2 ++ G):=by
 have x1:=getC_load hw
 have x2:=hc.load (hE 0)
 have x3:=(hc.rd.ext (hE 0)).len
 rcases cd_l2 (CT:=CT) (Gf:=Gf) (y:=y) (L:=L0) base (Nat.le_refl _) hK hKD hE hb hc.rd hc.sml.n hc.sml.nb hc.sml.nc hy (K 0) ⟨[],(List.append_nil _).symm⟩ with ⟨z1,G,z2⟩ | ⟨t,z1,fr,n,G,z2⟩
 ·refine .inl ⟨z1,G,callW_fn (c:=s_f70) hT (by simp [s_f70]) ?_⟩
  simp only [Iz,bl] at z2 x3
  simp only [s_f70,a_f70,s_f70_l0_b,s_f70_l1_b,s_f70_l2_b,aa,reduceIte,reduceCtorEq,Nat.reduceEqDiff,Nat.reduceLT,Nat.reduceLeDiff,Nat.reduceBEq,Nat.reduceAdd,Nat.reduceMul,x1,x2,x3,hK,z2,res_nil]
 ·refine .inr ⟨t,z1,n,G,callW_fn (c:=s_f70) hT (by simp [s_f70]) ?_⟩
  simp only [Iz,bl] at z2 x3
  simp only [s_f70,a_f70,s_f70_l0_b,s_f70_l1_b,s_f70_l2_b,aa,reduceIte,reduceCtorEq,Nat.reduceEqDiff,Nat.reduceLT,Nat.reduceLeDiff,Nat.reduceBEq,Nat.reduceAdd,Nat.reduceMul,x1,x2,x3,hK,z2,res_nil]
end
end Go.Proofs.YtamlbkalopefgaaR
set_option maxRecDepth 100000
namespace Go.Proofs.YtamlbkalopefgaaR
open Go.AM
def eS:ByteArray→Value:=.string
def fuS (P:Nat→FunD→Bool) (i:Nat) (f:FunD):Option Pt:=if P i f then some (i,0,0) else none
section
variable {CT:Nat→Option CFun}
def PredF (CT:Nat→Option CFun) (base:Nat) (f:V) (Inv:Nat→Heap→Prop) (i:Nat) (r:List V) (g:Bool):Prop:=∀ B,Inv i B→∀ G,∃ B' G',callW CT f [Iz i,.agg r] base (B ++ G)=some (bl g,B' ++ G ++ G')∧Inv (i+1) B'
theorem funcs_fun (hT:CT k_f43=some (.code s_f43)) (base m:Nat) (hb:base≤m) {A:Heap} {Inv:Nat→Heap→Prop} (hI:∀ n B,Inv n B→B.length=m∧Ext A B) {w sm:Nat} {fv:V} {fs:List FunD} (hc:NC A w sm fv fs) {f:V} {P:Nat→FunD→Bool}
 (hp:∀ i x r,fs[i]?=some x→RdFun A r x→PredF CT base f Inv i r (P i x)) {B0:Heap} (h0:Inv 0 B0):
 ∃ n B G,callW CT (.fn k_f43 [] []) [.ref w 0 0,f] base B0=some (resP (srch (fuS P) fs 0),B ++ G)∧Inv n B:=by
 obtain ⟨hm0,hE0⟩:=hI 0 B0 h0
 have hn:=hc.sml.n
 rcases it_srch fs fun0 (fuS P) (fun k C=>∃ B G,C=B ++ [Ob.cells 0 [Iz 0,Iz 0,Iz 0]] ++ G∧Inv k B) (fun k C=>itW (evC (callW CT) itW base s_f43_l0) [] (m+1) (frOf 27 [(1,f),(4,.ref m 0 0),(12,fv),(13,Iz fs.length),(14,Iz k)]) C) (fun t r=>∃ n B G,r=some (.ret,frOf 27 [(4,.ref m 0 0),(5,bl true)],B ++ [Ob.cells 0 [Iz t.1,Iz t.2.1,Iz t.2.2]] ++ G)∧Inv n B) (by
  intro k C hk ⟨B,G,hC',hInv⟩
  have hC:=hC'.symm
  obtain ⟨hBm,hBE⟩:=hI k B hInv
  have hlt':((k:Int) < (fs.length:Int)):=by omega
  have hwk:=w64 (n:=k) (by omega)
  have hkx:=some_getD hk fun0
  obtain ⟨x,hxe⟩:∃ x,fs.getD k fun0=x:=⟨_,rfl⟩
  rw [hxe] at hkx ⊢
  obtain ⟨a,r,a1,hr,a2,_⟩:=hc.rd.at2 hkx
  have hEA:Ext A C:=hC ▸ (hBE.trans (Ext.app _ _)).trans ⟨G,rfl⟩
  have ld:=a2 C hEA
  have hCl:m+1≤C.length:=by rw [← hC];simp;omega
  have hbC:base≤C.length:=by omega
  have hgg:∀ c,getC (C ++ [Ob.cells 0 c]) C.length 0=some c:=fun c=>getC_new C 0 c
  have hss:∀ c d,(C ++ [c]).set C.length d=C ++ [d]:=fun c d=>set_snoc C c d
  obtain ⟨pv,bv,rfl,q1,q2,q3,hbv⟩:=id hr
  have hpo:=q1.one
  have hbo:=hbv.one
  obtain ⟨B',G',y1,y2⟩:=hp k x _ hkx hr B hInv ([Ob.cells 0 [Iz 0,Iz 0,Iz 0]] ++ G ++ [Ob.cells 0 [Sb x.name,pv,bv]])
  obtain ⟨hBm',hBE'⟩:=hI (k+1) B' y2
  have eC:B ++ ([Ob.cells 0 [Iz 0,Iz 0,Iz 0]] ++ G ++ [Ob.cells 0 [Sb x.name,pv,bv]])=C ++ [Ob.cells 0 [Sb x.name,pv,bv]]:=by rw [← hC];simp
  obtain ⟨G2,hG2⟩:∃ G2,G ++ [Ob.cells 0 [Sb x.name,pv,bv]] ++ G'=G2:=⟨_,rfl⟩
  have eD:B' ++ ([Ob.cells 0 [Iz 0,Iz 0,Iz 0]] ++ G ++ [Ob.cells 0 [Sb x.name,pv,bv]]) ++ G'=B' ++ [Ob.cells 0 [Iz 0,Iz 0,Iz 0]] ++ G2:=by rw [← hG2];simp
  rw [eC,eD] at y1
  unfold fuS
  cases hg:P k x with
  | false=>
    rw [hg] at y1
    obtain ⟨G3,hG3⟩:=trim_app2 (C:=B' ++ [Ob.cells 0 [Iz 0,Iz 0,Iz 0]]) (m:=m+1) (by rw [len_snoc];omega) (frOf 27 [(1,f),(4,.ref m 0 0),(12,fv),(13,Iz fs.length),(14,Iz (k+1:Nat))]) G2
    refine .inl ⟨if_neg Bool.false_ne_true,B' ++ [Ob.cells 0 [Iz 0,Iz 0,Iz 0]] ++ G3,?_,B',G3,rfl,y2⟩
    rw [itW_step]
    simp only [Iz,bl] at y1 hG3
    simp only [Iz,a_f43,s_f43_l0_b,aa,reduceIte,reduceCtorEq,Nat.reduceEqDiff,Nat.reduceLT,Nat.reduceLeDiff,Nat.reduceBEq,Nat.reduceAdd,Nat.reduceMul,hlt',a1,ld,hbC,hgg,hss,hpo,hbo,Bool.and_self,y1,hwk,hG3]
  | true=>
    rw [hg] at y1
    have g4:getC (B' ++ [Ob.cells 0 [Iz 0,Iz 0,Iz 0]] ++ G2) m 0=some [Iz 0,Iz 0,Iz 0]:=by rw [← hBm'];simp [getC]
    have s4:(B' ++ [Ob.cells 0 [Iz 0,Iz 0,Iz 0]] ++ G2).set m (.cells 0 [Iz k,Iz 0,Iz 0])=B' ++ [Ob.cells 0 [Iz k,Iz 0,Iz 0]] ++ G2:=by rw [← hBm'];simp
    obtain ⟨G3,hG3⟩:=trim_app2 (C:=B' ++ [Ob.cells 0 [Iz k,Iz 0,Iz 0]]) (m:=m+1) (by rw [len_snoc];omega) (frOf 27 [(4,.ref m 0 0),(5,bl true)]) G2
    refine .inr ⟨(k,0,0),if_pos rfl,k+1,B',G3,?_,y2⟩
    rw [itW_step]
    simp only [Iz,bl] at y1 hG3 g4 s4
    simp only [Iz,bl,a_f43,s_f43_l0_b,aa,reduceIte,reduceCtorEq,Nat.reduceEqDiff,Nat.reduceLT,Nat.reduceLeDiff,Nat.reduceBEq,Nat.reduceAdd,Nat.reduceMul,hlt',a1,ld,hbC,hgg,hss,hpo,hbo,Bool.and_self,y1,g4,s4,hb,hG3]) (B0 ++ [Ob.cells 0 [Iz 0,Iz 0,Iz 0]]) ⟨B0,[],(List.append_nil _).symm,h0⟩ with ⟨e1,C,e2,B,G,hC,hInv⟩ | ⟨⟨i,b,k⟩,e1,n,B,G,e2,hInv⟩
 all_goals
  have x1:=hc.load (hE0.trans (Ext.app B0 [Ob.cells 0 [Iz 0,Iz 0,Iz 0]]))
  have hl:=(hc.rd.ext (hE0.trans (Ext.app B0 [Ob.cells 0 [Iz 0,Iz 0,Iz 0]]))).len
  have hl0:=len_snoc B0 (Ob.cells 0 [Iz 0,Iz 0,Iz 0])
  rw [hm0] at hl0
  have z0:Iz ((0:Nat):Int)=Iz 0:=rfl
  rw [z0] at e2
  obtain ⟨hBm,hBE⟩:=hI _ B hInv
 ·have g4:∀ G,getC (B ++ [Ob.cells 0 [Iz 0,Iz 0,Iz 0]] ++ G) m 0=some [Iz 0,Iz 0,Iz 0]:=fun G=>by rw [← hBm];simp [getC]
  have s4:∀ G,(B ++ [Ob.cells 0 [Iz 0,Iz 0,Iz 0]] ++ G).set m (.cells 0 [Iz 0,Iz 0,Iz 0])=B ++ [Ob.cells 0 [Iz 0,Iz 0,Iz 0]] ++ G:=fun G=>by rw [← hBm];simp
  obtain ⟨G1,hG1⟩:=trim_app2 (C:=B ++ [Ob.cells 0 [Iz 0,Iz 0,Iz 0]]) (m:=m+1) (by rw [len_snoc];omega) (frOf 27 [(1,f),(4,.ref m 0 0),(12,fv),(13,Iz fs.length),(14,Iz fs.length),(15,bl false)]) G
  have hend:itW (evC (callW CT) itW base s_f43_l0) [] (m+1) (frOf 27 [(1,f),(4,.ref m 0 0),(12,fv),(13,Iz fs.length),(14,Iz fs.length)]) C=some (.ext 0,frOf 27 [(1,f),(4,.ref m 0 0),(12,fv),(13,Iz fs.length),(14,Iz fs.length),(15,bl false)],B ++ [Ob.cells 0 [Iz 0,Iz 0,Iz 0]] ++ G1):=by
   subst hC
   rw [itW_step]
   simp only [Iz,bl] at hG1
   simp only [Iz,bl,a_f43,s_f43_l0_b,aa,reduceIte,reduceCtorEq,Nat.reduceEqDiff,Nat.reduceLT,Nat.reduceLeDiff,Nat.reduceBEq,Nat.reduceAdd,Nat.reduceMul,Int.lt_irrefl,hG1]
  have e3:=e2.trans hend
  refine ⟨fs.length,B,[Ob.cells 0 [Iz 0,Iz 0,Iz 0]] ++ G1,callW_fnA (c:=s_f43) (k:=2) hT rfl (by decide) s_f43_first ?_,hInv⟩
  have xR:loadV (B ++ [Ob.cells 0 [Iz 0,Iz 0,Iz 0]] ++ G1) true 3 (.ref m 0 0)=some (.agg [Iz 0,Iz 0,Iz 0]):=by
   show xLoad _ true 3 _=_
   rw [xo_ref,g4];rfl
  rw [e1,← List.append_assoc]
  have g5:=g4 G1
  have s5:=s4 G1
  simp only [Iz,bl] at e3 xR x1 hl hl0 g5 s5
  simp only [Iz,s_f43,a_f43,s_f43_l0_b,aa,reduceIte,reduceCtorEq,Nat.reduceEqDiff,Nat.reduceLT,Nat.reduceLeDiff,Nat.reduceBEq,Nat.reduceAdd,Nat.reduceMul,hm0,hl0,x1,hl,e3,g5,s5,hb]
  rw [xR]
  rfl
 ·refine ⟨n,B,[Ob.cells 0 [Iz i,Iz b,Iz k]] ++ G,callW_fnA (c:=s_f43) (k:=2) hT rfl (by decide) s_f43_first ?_,hInv⟩
  have xR:loadV (B ++ [Ob.cells 0 [Iz i,Iz b,Iz k]] ++ G) true 3 (.ref m 0 0)=some (.agg [Iz i,Iz b,Iz k]):=by
   show xLoad _ true 3 _=_
   have:getC (B ++ [Ob.cells 0 [Iz i,Iz b,Iz k]] ++ G) m 0=some [Iz i,Iz b,Iz k]:=by rw [← hBm];simp [getC]
   rw [xo_ref,this];rfl
  rw [e1,← List.append_assoc]
  simp only [Iz,bl] at e2 xR x1 hl hl0
  simp only [Iz,s_f43,a_f43,s_f43_l0_b,aa,reduceIte,reduceCtorEq,Nat.reduceEqDiff,Nat.reduceLT,Nat.reduceLeDiff,Nat.reduceBEq,Nat.reduceAdd,Nat.reduceMul,hm0,hl0,x1,hl,e2]
  rw [xR]
  rfl
end
end Go.Proofs.YtamlbkalopefgaaR
set_option maxRecDepth 100000
namespace Go.Proofs.YtamlbkalopefgaaR
open Go.AM
def seenL (l:List BlkD) (s:ByteArray):Bool:=l.any fun y=>decide (y.label=s)
def tlB (bs:List BlkD) (i:Nat) (b:Nat) (x:BlkD):Option Pt:=if seenL (bs.take b) x.label then some (i,b,0) else none
def tlF (i:Nat) (f:FunD):Option Pt:=srch (tlB f.blocks i) f.blocks 0
section
variable {CT:Nat→Option CFun}
theorem tl_l0 (base:Nat) {A C0:Heap} (h1:Ext A C0) (hb:base≤A.length) (hg:getC C0 A.length 0=some [Iz 0,Iz 0,Iz 0]) {bv v13:V} {i:Nat} {n14 n15:Int} {l:List BlkD} (hv:RdL 2 RdBlk A bv l) (hn:l.length < 2 ^ 20) (hA:A.length < C0.length):
 ∀ C,(∃ M G,C=C0 ++ [M] ++ G∧SetOf eS (fun s=>seenL (l.take 0) s) M)→(srch (tlB l i) l 0=none∧∃ C',itW (evC (callW CT) itW base s_f28_l0) [] (C0.length+1) (frOf 42 [(2,.ref A.length 0 0),(4,Iz i),(6,.mp C0.length),(13,v13),(14,Iz n14),(15,Iz n15),(22,bv),(23,Iz l.length),(24,Iz 0)]) C=some (.ext 2,frOf 42 [(2,.ref A.length 0 0),(4,Iz i),(6,.mp C0.length),(13,v13),(14,Iz n14),(15,Iz n15),(22,bv),(23,Iz l.length),(24,Iz l.length),(25,bl false)],C')∧Ext C0 C')∨∃ t,srch (tlB l i) l 0=some t∧Found A 42 A.length t (itW (evC (callW CT) itW base s_f28_l0) [] (C0.length+1) (frOf 42 [(2,.ref A.length 0 0),(4,Iz i),(6,.mp C0.length),(13,v13),(14,Iz n14),(15,Iz n15),(22,bv),(23,Iz l.length),(24,Iz 0)]) C):=by
 intro C0' hC0
 rcases it_srch l blk0 (tlB l i) (fun k C=>∃ M G,C=C0 ++ [M] ++ G∧SetOf eS (fun s=>seenL (l.take k) s) M) (fun k C=>itW (evC (callW CT) itW base s_f28_l0) [] (C0.length+1) (frOf 42 [(2,.ref A.length 0 0),(4,Iz i),(6,.mp C0.length),(13,v13),(14,Iz n14),(15,Iz n15),(22,bv),(23,Iz l.length),(24,Iz k)]) C) (Found A 42 A.length) (by
  intro k C hk ⟨M,G,hC,hS⟩
  have hlt':((k:Int) < (l.length:Int)):=by omega
  have hwk:=w64 (n:=k) (by omega)
  have hkx:=some_getD hk blk0
  obtain ⟨x,hxe⟩:∃ x,l.getD k blk0=x:=⟨_,rfl⟩
  rw [hxe] at hkx ⊢
  obtain ⟨a,r,a1,hr,a2,_⟩:=hv.at2 hkx
  have hE0:Ext C0 C:=hC ▸ (Ext.app C0 [M]).trans ⟨G,rfl⟩
  have hEA:=h1.trans hE0
  have ld:=a2 C hEA
  have hle:=hE0.le
  have hbC:base≤C.length:=by omega
  have hgg:∀ c,getC (C ++ [Ob.cells 0 c]) C.length 0=some c:=fun c=>getC_new C 0 c
  have hss:∀ c d,(C ++ [c]).set C.length d=C ++ [d]:=fun c d=>set_snoc C c d
  obtain ⟨cv,rfl,hcv⟩:=hr
  have hco:=hcv.one
  obtain ⟨D,hD⟩:∃ D,C ++ [Ob.cells 0 [Sb x.label,cv]]=D:=⟨_,rfl⟩
  have hED:Ext C D:=hD ▸ Ext.app _ _
  have hmm:D[C0.length]?=some M:=by rw [← hD,hC];simp
  have hgt:=setOf_get same_str key_str hS x.label hmm
  have hgD:getC D C.length 0=some [Sb x.label,cv]:=by rw [← hD];exact getC_new C 0 _
  have hsD:∀ c,(C ++ [c]).set C.length (Ob.cells 0 [Sb x.label,cv])=D:=fun c=>by rw [← hD];exact set_snoc C c _
  unfold tlB
  cases hs:seenL (l.take k) x.label with
  | true=>
    rw [hs] at hgt
    have hg2:=getC_ext hg (hE0.trans hED)
    refine .inr ⟨(i,k,0),if_pos rfl,trim (C0.length+1) (frOf 42 [(2,.ref A.length 0 0),(3,bl true)]) (D.set A.length (.cells 0 [Iz i,Iz k,Iz 0])),?_,((hEA.trans hED).set (Nat.le_refl _) _).trim (by omega) _,trim_get (getC_put hg2) (by omega)⟩
    rw [itW_step]
    simp only [Iz] at hg2
    simp only [Iz,bl,a_f28,s_f28_l0_b,s_f28_l1_b,aa,reduceIte,reduceCtorEq,Nat.reduceEqDiff,Nat.reduceLT,Nat.reduceLeDiff,Nat.reduceBEq,Nat.reduceAdd,Nat.reduceMul,hlt',a1,ld,hbC,hgg,hsD,hco,Bool.and_self,hgD,hgt,hg2,hb]
  | false=>
    rw [hs] at hgt
    obtain ⟨M',u1,u2⟩:=setOf_put same_str key_str hS x.label (H:=D) (base:=base) (j:=C0.length) (by omega) hmm
    have hset:D.set C0.length M'=C0 ++ [M'] ++ (G ++ [Ob.cells 0 [Sb x.label,cv]]):=by rw [← hD,hC];simp
    rw [hset] at u1
    obtain ⟨G2,hG2⟩:=trim_app2 (C:=C0 ++ [M']) (m:=C0.length+1) (by simp) (frOf 42 [(2,.ref A.length 0 0),(4,Iz i),(6,.mp C0.length),(13,v13),(14,Iz n14),(15,Iz n15),(22,bv),(23,Iz l.length),(24,Iz (k+1:Nat))]) (G ++ [Ob.cells 0 [Sb x.label,cv]])
    refine .inl ⟨if_neg Bool.false_ne_true,C0 ++ [M'] ++ G2,?_,M',G2,rfl,u2.congr fun s=>?_⟩
    ·rw [itW_step]
     simp only [Iz] at hG2
     simp only [Iz,bl,a_f28,s_f28_l0_b,s_f28_l1_b,aa,reduceIte,reduceCtorEq,Nat.reduceEqDiff,Nat.reduceLT,Nat.reduceLeDiff,Nat.reduceBEq,Nat.reduceAdd,Nat.reduceMul,op_mapUpd,hlt',a1,ld,hbC,hgg,hsD,hco,Bool.and_self,hgD,hgt,u1,hwk,hG2]
    ·unfold seenL
     rw [List.take_add_one,hkx,List.any_append]
     simp [eq_comm]) C0' hC0 with ⟨e1,C,e2,M,G,e3,_⟩ | e
 ·obtain ⟨G2,hG2⟩:=trim_app2 (C:=C0 ++ [M]) (m:=C0.length+1) (by simp) (frOf 42 [(2,.ref A.length 0 0),(4,Iz i),(6,.mp C0.length),(13,v13),(14,Iz n14),(15,Iz n15),(22,bv),(23,Iz l.length),(24,Iz l.length),(25,bl false)]) G
  refine .inl ⟨e1,C0 ++ [M] ++ G2,?_,(Ext.app C0 [M]).trans ⟨G2,rfl⟩⟩
  rw [cast0] at e2
  refine e2.trans ?_
  subst e3
  rw [itW_step]
  simp only [Iz,bl] at hG2
  simp only [Iz,bl,a_f28,s_f28_l0_b,s_f28_l1_b,aa,reduceIte,reduceCtorEq,Nat.reduceEqDiff,Nat.reduceLT,Nat.reduceLeDiff,Nat.reduceBEq,Nat.reduceAdd,Nat.reduceMul,Int.lt_irrefl,hG2]
 ·rw [cast0] at e
  exact .inr e
theorem tl_l1 (base:Nat) {A A1:Heap} (h1:Ext A A1) (hb:base≤A.length) (hg:getC A1 A.length 0=some [Iz 0,Iz 0,Iz 0]) {fv:V} {l:List FunD} (hv:RdL 3 RdFun A fv l) (hn:l.length < 2 ^ 20) (hnb:∀ f∈l,f.blocks.length < 2 ^ 20) {L:Nat} (hL:A1.length≤L) (hA1:A.length < A1.length):
 ∀ C,Ext A1 C→(srch (tlF) l 0=none∧∃ C',itW (evC (callW CT) itW base s_f28_l1) [] L (frOf 42 [(2,.ref A.length 0 0),(13,fv),(14,Iz l.length),(15,Iz 0)]) C=some (.ext 0,frOf 42 [(2,.ref A.length 0 0),(13,fv),(14,Iz l.length),(15,Iz l.length),(16,bl false)],C')∧Ext A1 C')∨∃ t,srch (tlF) l 0=some t∧Found A 42 A.length t (itW (evC (callW CT) itW base s_f28_l1) [] L (frOf 42 [(2,.ref A.length 0 0),(13,fv),(14,Iz l.length),(15,Iz 0)]) C):=by
 intro C0 hC0
 rcases it_srch l fun0 (tlF) (fun _ C=>Ext A1 C) (fun k C=>itW (evC (callW CT) itW base s_f28_l1) [] L (frOf 42 [(2,.ref A.length 0 0),(13,fv),(14,Iz l.length),(15,Iz k)]) C) (Found A 42 A.length) (by
  intro k C hk hE
  have hlt':((k:Int) < (l.length:Int)):=by omega
  have hwk:=w64 (n:=k) (by omega)
  have hle:=hE.le
  have hkx:=some_getD hk fun0
  obtain ⟨x,hxe⟩:∃ x,l.getD k fun0=x:=⟨_,rfl⟩
  rw [hxe] at hkx ⊢
  have hmem:=List.mem_of_getElem? hkx
  obtain ⟨a,r,a1,hr,a2,_⟩:=hv.at2 hkx
  have hEA:=h1.trans hE
  have ld:=a2 C hEA
  have hbC:base≤C.length:=by omega
  have hgg:∀ c,getC (C ++ [Ob.cells 0 c]) C.length 0=some c:=fun c=>getC_new C 0 c
  have hss:∀ c d,(C ++ [c]).set C.length d=C ++ [d]:=fun c d=>set_snoc C c d
  have eC:∀ c,Ext C (C ++ [Ob.cells 0 c]):=fun c=>Ext.app _ _
  have g2:∀ D,Ext A1 D→getC D A.length 0=some [Iz 0,Iz 0,Iz 0]:=fun D h=>getC_ext hg h
  obtain ⟨pv,bv,rfl,q1,q2,q3,hbv⟩:=hr
  have hpl:=Sb_len (q1.ext (hEA.trans (eC [Sb x.name,pv,bv])))
  have hpo:=q1.one
  have hbo:=hbv.one
  have hbl:=(rdB_ext hbv (hEA.trans (eC [Sb x.name,pv,bv]))).len
  have hl2:(C ++ [Ob.cells 0 [Sb x.name,pv,bv]]).length=C.length+1:=by simp
  have hbl0:=(rdB_ext hbv (hEA.trans ((eC [Sb x.name,pv,bv]).trans (Ext.app (C ++ [Ob.cells 0 [Sb x.name,pv,bv]]) [Ob.map []])))).len
  unfold tlF
  have hin:=tl_l0 (CT:=CT) (v13:=fv) (i:=k) (n14:=l.length) (n15:=k) base (C0:=C ++ [Ob.cells 0 [Sb x.name,pv,bv]]) (hEA.trans (eC _)) hb (g2 _ (hE.trans (eC _))) hbv (hnb x hmem) (by rw [len_snoc];omega) (C ++ [Ob.cells 0 [Sb x.name,pv,bv]] ++ [Ob.map []]) ⟨.map [],[],(List.append_nil _).symm,setOf_nil eS⟩
  have hl3:(C ++ [Ob.cells 0 [Sb x.name,pv,bv]] ++ [Ob.map []]).length=C.length+2:=by simp
  have hgf:getC (C ++ [Ob.cells 0 [Sb x.name,pv,bv]] ++ [Ob.map []]) C.length 0=some [Sb x.name,pv,bv]:=getC_ext (hgg _) (Ext.app _ _)
  rw [hl2] at hin
  rcases hin with ⟨z1,C2,z2,z3⟩ | ⟨t,z1,D,z2,z3,z4⟩
  ·refine .inl ⟨z1,trim L (frOf 42 [(2,.ref A.length 0 0),(13,fv),(14,Iz l.length),(15,Iz (k+1:Nat))]) C2,?_,((hE.trans (eC _)).trans z3).trim (by omega) _⟩
   rw [itW_step]
   simp only [Iz,bl] at z2
   simp only [Iz,bl,a_f28,s_f28_l0_b,s_f28_l1_b,aa,reduceIte,reduceCtorEq,Nat.reduceEqDiff,Nat.reduceLT,Nat.reduceLeDiff,Nat.reduceBEq,Nat.reduceAdd,Nat.reduceMul,op_mapNew,hlt',a1,ld,hbC,hgg,hss,hpo,hbo,Bool.and_self,hpl,hbl,hbl0,hl2,hl3,hgf,z2,hwk]
  ·refine .inr ⟨t,z1,trim L (frOf 42 [(2,.ref A.length 0 0),(3,bl true)]) D,?_,z3.trim (by omega) _,trim_get z4 (by omega)⟩
   rw [itW_step]
   simp only [Iz,bl] at z2
   simp only [Iz,bl,a_f28,s_f28_l0_b,s_f28_l1_b,aa,reduceIte,reduceCtorEq,Nat.reduceEqDiff,Nat.reduceLT,Nat.reduceLeDiff,Nat.reduceBEq,Nat.reduceAdd,Nat.reduceMul,op_mapNew,hlt',a1,ld,hbC,hgg,hss,hpo,hbo,Bool.and_self,hpl,hbl,hbl0,hl2,hl3,hgf,z2]) C0 hC0 with ⟨e1,C,e2,e3⟩ | e
 ·refine .inl ⟨e1,trim L (frOf 42 [(2,.ref A.length 0 0),(13,fv),(14,Iz l.length),(15,Iz l.length),(16,bl false)]) C,?_,e3.trim (by omega) _⟩
  rw [cast0] at e2
  refine e2.trans ?_
  rw [itW_step]
  simp only [Iz,bl,a_f28,s_f28_l0_b,s_f28_l1_b,aa,reduceIte,reduceCtorEq,Nat.reduceEqDiff,Nat.reduceLT,Nat.reduceLeDiff,Nat.reduceBEq,Nat.reduceAdd,Nat.reduceMul,Int.lt_irrefl]
 ·rw [cast0] at e
  exact .inr e
theorem twiceLabel_fun (hT:CT k_f28=some (.code s_f28)) (base:Nat) {A:Heap} (hb:base≤A.length) {w sm:Nat} {fv:V} {fs:List FunD} (hc:NC A w sm fv fs):
 ∃ H',callW CT (.fn k_f28 [] []) [.ref w 0 0] base A=some (resP (srch tlF fs 0),H')∧Ext A H':=by
 have e1:Ext A (A ++ [Ob.cells 0 [Iz 0,Iz 0,Iz 0]]):=Ext.app _ _
 have x1:=hc.load e1
 have hl:=(hc.rd.ext e1).len
 have g1:getC (A ++ [Ob.cells 0 [Iz 0,Iz 0,Iz 0]]) A.length 0=some [Iz 0,Iz 0,Iz 0]:=getC_new A 0 _
 have hl1:(A ++ [Ob.cells 0 [Iz 0,Iz 0,Iz 0]]).length=A.length+1:=by simp
 rcases tl_l1 (CT:=CT) base e1 hb g1 hc.rd hc.sml.n hc.sml.nb (L:=A.length+1) (by omega) (by omega) (A ++ [Ob.cells 0 [Iz 0,Iz 0,Iz 0]]) (Ext.refl _) with ⟨q1,C,q2,q3⟩ | ⟨⟨i,b,k⟩,q1,D,q2,q3,q4⟩
 ·have g2:=getC_ext g1 q3
  have g3:=getC_put (c':=[Iz 0,Iz 0,Iz 0]) g2
  refine ⟨C.set A.length (.cells 0 [Iz 0,Iz 0,Iz 0]),callW_fnA (c:=s_f28) (k:=1) hT rfl (by decide) s_f28_first ?_,(e1.trans q3).set (Nat.le_refl _) _⟩
  rw [q1]
  have xR:loadV (C.set A.length (.cells 0 [Iz 0,Iz 0,Iz 0])) true 3 (.ref A.length 0 0)=some (.agg [Iz 0,Iz 0,Iz 0]):=by
   show xLoad _ true 3 _=_
   rw [xo_ref,g3];rfl
  simp only [Iz,bl] at x1 hl hl1 q2 g2 xR
  simp only [Iz,s_f28,a_f28,s_f28_l0_b,s_f28_l1_b,aa,reduceIte,reduceCtorEq,Nat.reduceEqDiff,Nat.reduceLT,Nat.reduceLeDiff,Nat.reduceBEq,Nat.reduceAdd,Nat.reduceMul,x1,hl,hl1,q2,g2,hb]
  rw [xR]
  rfl
 ·refine ⟨D,callW_fnA (c:=s_f28) (k:=1) hT rfl (by decide) s_f28_first ?_,q3⟩
  rw [q1]
  have xR:loadV D true 3 (.ref A.length 0 0)=some (.agg [Iz i,Iz b,Iz k]):=by
   show xLoad _ true 3 _=_
   rw [xo_ref,q4];rfl
  simp only [Iz,bl] at x1 hl hl1 q2 xR
  simp only [Iz,s_f28,a_f28,s_f28_l0_b,s_f28_l1_b,aa,reduceIte,reduceCtorEq,Nat.reduceEqDiff,Nat.reduceLT,Nat.reduceLeDiff,Nat.reduceBEq,Nat.reduceAdd,Nat.reduceMul,x1,hl,hl1,q2]
  rw [xR]
  rfl
end
end Go.Proofs.YtamlbkalopefgaaR
set_option maxRecDepth 100000
namespace Go.Proofs.YtamlbkalopefgaaR
open Go.AM
def seenS (l:List ByteArray) (s:ByteArray):Bool:=l.any fun y=>decide (y=s)
def seenD (l:List InsD) (s:ByteArray):Bool:=l.any fun y=>decide (y.d=s)
def seenB (l:List BlkD) (s:ByteArray):Bool:=l.any fun y=>seenD y.code s
def tvP (l:List ByteArray) (i:Nat) (k:Nat) (x:ByteArray):Option Pt:=if seenS (l.take k) x then some (i,0,0) else none
def tvI (S:ByteArray→Bool) (l:List InsD) (i b:Nat) (k:Nat) (x:InsD):Option Pt:=if (!x.d.data.toList == [] && (S x.d || seenD (l.take k) x.d))=true then some (i,b,k) else none
def tvB (S:ByteArray→Bool) (l:List BlkD) (i:Nat) (b:Nat) (x:BlkD):Option Pt:=srch (tvI (fun s=>S s || seenB (l.take b) s) x.code i b) x.code 0
def tvF (i:Nat) (f:FunD):Option Pt:=match srch (tvP f.ps i) f.ps 0 with | some t=>some t | none=>srch (tvB (seenS f.ps) f.blocks i) f.blocks 0
section
variable {CT:Nat→Option CFun}
theorem tv_l0 (base:Nat) {A C0:Heap} (h1:Ext A C0) (hb:base≤A.length) (hg:getC C0 A.length 0=some [Iz 0,Iz 0,Iz 0]) (hA:A.length < C0.length) {L:Nat} (hL:C0.length+1≤L) {i p5:Nat} {v17 pv:V} {n18 n19:Int} {l:List ByteArray} (hv:Rd A pv (l.map Sb)) (hw:Wide1 pv) (hn:l.length < 2 ^ 20):
 ∀ C,(∃ M G,C=C0 ++ [M] ++ G∧SetOf eS (fun s=>seenS ([]) s) M)→(srch (tvP l i) l 0=none∧∃ C',itW (evC (callW CT) itW base s_f36_l0) [] L (frOf 76 [(2,.ref A.length 0 0),(4,Iz i),(5,.ref p5 0 0),(6,.mp C0.length),(17,v17),(18,Iz n18),(19,Iz n19),(26,pv),(27,Iz l.length),(28,Iz 0)]) C=some (.ext 2,frOf 76 [(2,.ref A.length 0 0),(4,Iz i),(5,.ref p5 0 0),(6,.mp C0.length),(17,v17),(18,Iz n18),(19,Iz n19),(26,pv),(27,Iz l.length),(28,Iz l.length),(29,bl false)],C')∧∃ M G,C'=C0 ++ [M] ++ G∧SetOf eS (fun s=>seenS (l) s) M)∨∃ t,srch (tvP l i) l 0=some t∧Found A 76 A.length t (itW (evC (callW CT) itW base s_f36_l0) [] L (frOf 76 [(2,.ref A.length 0 0),(4,Iz i),(5,.ref p5 0 0),(6,.mp C0.length),(17,v17),(18,Iz n18),(19,Iz n19),(26,pv),(27,Iz l.length),(28,Iz 0)]) C):=by
 intro C0' hC0
 rcases it_srch l ⟨#[]⟩ (tvP l i) (fun k C=>∃ M G,C=C0 ++ [M] ++ G∧SetOf eS (fun s=>seenS (l.take k) s) M) (fun k C=>itW (evC (callW CT) itW base s_f36_l0) [] L (frOf 76 [(2,.ref A.length 0 0),(4,Iz i),(5,.ref p5 0 0),(6,.mp C0.length),(17,v17),(18,Iz n18),(19,Iz n19),(26,pv),(27,Iz l.length),(28,Iz k)]) C) (Found A 76 A.length) (by
  intro k C hk ⟨M,G,hC,hS⟩
  have hlt':((k:Int) < (l.length:Int)):=by omega
  have hwk:=w64 (n:=k) (by omega)
  have hkx:=some_getD hk ⟨#[]⟩
  obtain ⟨x,hxe⟩:∃ x,l.getD k ⟨#[]⟩=x:=⟨_,rfl⟩
  have hk':=hk
  have hxe':=hxe
  rw [hxe] at hkx ⊢
  have hmem:=List.mem_of_getElem? hkx
  have hE0:Ext C0 C:=hC ▸ (Ext.app C0 [M]).trans ⟨G,rfl⟩
  have hEA:=h1.trans hE0
  have hle:=hE0.le
  have hbC:base≤C.length:=by omega
  have hgg:∀ c,getC (C ++ [Ob.cells 0 c]) C.length 0=some c:=fun c=>getC_new C 0 c
  have hss:∀ c d,(C ++ [c]).set C.length d=C ++ [d]:=fun c d=>set_snoc C c d
  have eC:∀ c,Ext C (C ++ [Ob.cells 0 c]):=fun c=>Ext.app _ _
  obtain ⟨a,a1,a2⟩:=Sb_at (hv.ext hEA) hw hk'
  rw [hxe'] at a2
  have hmm:C[C0.length]?=some M:=by rw [hC];simp
  have hgt:=setOf_get same_str key_str hS x hmm
  unfold tvP
  cases hs:seenS (l.take k) x with
  | true=>
    rw [hs] at hgt
    have hg2:=getC_ext hg hE0
    refine .inr ⟨(i,0,0),if_pos rfl,trim L (frOf 76 [(2,.ref A.length 0 0),(3,bl true)]) (C.set A.length (.cells 0 [Iz i,Iz 0,Iz 0])),?_,(hEA.set (Nat.le_refl _) _).trim (by omega) _,trim_get (getC_put hg2) (by omega)⟩
    rw [itW_step]
    simp only [Iz] at hg2
    simp only [Iz,bl,a_f36,s_f36_l0_b,s_f36_l1_b,s_f36_l2_b,s_f36_l3_b,aa,reduceIte,reduceCtorEq,Nat.reduceEqDiff,Nat.reduceLT,Nat.reduceLeDiff,Nat.reduceBEq,Nat.reduceAdd,Nat.reduceMul,hlt',a1,a2,hgt,hg2,hb]
  | false=>
    rw [hs] at hgt
    obtain ⟨M',u1,u2⟩:=setOf_put same_str key_str hS x (H:=C) (base:=base) (j:=C0.length) (by omega) hmm
    have hset:C.set C0.length M'=C0 ++ [M'] ++ G:=by rw [hC];simp
    rw [hset] at u1
    obtain ⟨G2,hG2⟩:=trim_app2 (C:=C0 ++ [M']) (m:=L) (by rw [len_snoc];exact hL) (frOf 76 [(2,.ref A.length 0 0),(4,Iz i),(5,.ref p5 0 0),(6,.mp C0.length),(17,v17),(18,Iz n18),(19,Iz n19),(26,pv),(27,Iz l.length),(28,Iz (k+1:Nat))]) G
    refine .inl ⟨if_neg Bool.false_ne_true,C0 ++ [M'] ++ G2,?_,M',G2,rfl,u2.congr fun s=>?_⟩
    ·rw [itW_step]
     simp only [Iz] at hG2
     simp only [Iz,bl,a_f36,s_f36_l0_b,s_f36_l1_b,s_f36_l2_b,s_f36_l3_b,aa,reduceIte,reduceCtorEq,Nat.reduceEqDiff,Nat.reduceLT,Nat.reduceLeDiff,Nat.reduceBEq,Nat.reduceAdd,Nat.reduceMul,op_mapUpd,hlt',a1,a2,hgt,u1,hwk,hG2]
    ·unfold seenS
     rw [List.take_add_one,hkx,List.any_append]
     simp [eq_comm]) C0' (by simpa using hC0) with ⟨e1,C,e2,M,G,e3,e4⟩ | e
 ·obtain ⟨G2,hG2⟩:=trim_app2 (C:=C0 ++ [M]) (m:=L) (by rw [len_snoc];exact hL) (frOf 76 [(2,.ref A.length 0 0),(4,Iz i),(5,.ref p5 0 0),(6,.mp C0.length),(17,v17),(18,Iz n18),(19,Iz n19),(26,pv),(27,Iz l.length),(28,Iz l.length),(29,bl false)]) G
  refine .inl ⟨e1,C0 ++ [M] ++ G2,?_,M,G2,rfl,by rw [List.take_length] at e4;exact e4⟩
  rw [cast0] at e2
  refine e2.trans ?_
  subst e3
  rw [itW_step]
  simp only [Iz,bl] at hG2
  simp only [Iz,bl,a_f36,s_f36_l0_b,s_f36_l1_b,s_f36_l2_b,s_f36_l3_b,aa,reduceIte,reduceCtorEq,Nat.reduceEqDiff,Nat.reduceLT,Nat.reduceLeDiff,Nat.reduceBEq,Nat.reduceAdd,Nat.reduceMul,Int.lt_irrefl,hG2]
 ·rw [cast0] at e
  exact .inr e
theorem tv_l1 (base:Nat) {A C0:Heap} (h1:Ext A C0) (hb:base≤A.length) (hg:getC C0 A.length 0=some [Iz 0,Iz 0,Iz 0]) (hA:A.length < C0.length) {L:Nat} (hL:C0.length+1≤L) {i b:Nat} {v17 v41 cv:V} {n18 n19 n42 n43:Int} {l:List InsD} (hv:RdL 8 RdIns A cv l) (hn:l.length < 2 ^ 20) {S:ByteArray→Bool}:
 ∀ C,(∃ M G,C=C0 ++ [M] ++ G∧SetOf eS (fun s=>S s || seenD ([]) s) M)→(srch (tvI S l i b) l 0=none∧∃ C',itW (evC (callW CT) itW base s_f36_l1) [] L (frOf 76 [(2,.ref A.length 0 0),(4,Iz i),(6,.mp C0.length),(9,Iz b),(17,v17),(18,Iz n18),(19,Iz n19),(41,v41),(42,Iz n42),(43,Iz n43),(49,cv),(50,Iz l.length),(51,Iz 0)]) C=some (.ext 6,frOf 76 [(2,.ref A.length 0 0),(4,Iz i),(6,.mp C0.length),(9,Iz b),(17,v17),(18,Iz n18),(19,Iz n19),(41,v41),(42,Iz n42),(43,Iz n43),(49,cv),(50,Iz l.length),(51,Iz l.length),(52,bl false)],C')∧∃ M G,C'=C0 ++ [M] ++ G∧SetOf eS (fun s=>S s || seenD (l) s) M)∨∃ t,srch (tvI S l i b) l 0=some t∧Found A 76 A.length t (itW (evC (callW CT) itW base s_f36_l1) [] L (frOf 76 [(2,.ref A.length 0 0),(4,Iz i),(6,.mp C0.length),(9,Iz b),(17,v17),(18,Iz n18),(19,Iz n19),(41,v41),(42,Iz n42),(43,Iz n43),(49,cv),(50,Iz l.length),(51,Iz 0)]) C):=by
 intro C0' hC0
 rcases it_srch l ins0 (tvI S l i b) (fun k C=>∃ M G,C=C0 ++ [M] ++ G∧SetOf eS (fun s=>S s || seenD (l.take k) s) M) (fun k C=>itW (evC (callW CT) itW base s_f36_l1) [] L (frOf 76 [(2,.ref A.length 0 0),(4,Iz i),(6,.mp C0.length),(9,Iz b),(17,v17),(18,Iz n18),(19,Iz n19),(41,v41),(42,Iz n42),(43,Iz n43),(49,cv),(50,Iz l.length),(51,Iz k)]) C) (Found A 76 A.length) (by
  intro k C hk ⟨M,G,hC,hS⟩
  have hlt':((k:Int) < (l.length:Int)):=by omega
  have hwk:=w64 (n:=k) (by omega)
  have hkx:=some_getD hk ins0
  obtain ⟨x,hxe⟩:∃ x,l.getD k ins0=x:=⟨_,rfl⟩
  have hk':=hk
  have hxe':=hxe
  rw [hxe] at hkx ⊢
  have hmem:=List.mem_of_getElem? hkx
  have hE0:Ext C0 C:=hC ▸ (Ext.app C0 [M]).trans ⟨G,rfl⟩
  have hEA:=h1.trans hE0
  have hle:=hE0.le
  have hbC:base≤C.length:=by omega
  have hgg:∀ c,getC (C ++ [Ob.cells 0 c]) C.length 0=some c:=fun c=>getC_new C 0 c
  have hss:∀ c d,(C ++ [c]).set C.length d=C ++ [d]:=fun c d=>set_snoc C c d
  have eC:∀ c,Ext C (C ++ [Ob.cells 0 c]):=fun c=>Ext.app _ _
  obtain ⟨a,r,a1,hr,a2,_⟩:=hv.at2 hkx
  have ld:=a2 C hEA
  obtain ⟨av,lv,rfl,q1,q2,q3,q4,_⟩:=hr
  have hav:=q1.one
  have hlv:=q3.one
  obtain ⟨D,hD⟩:∃ D,C ++ [Ob.cells 0 (insC x av lv)]=D:=⟨_,rfl⟩
  have hED:Ext C D:=hD ▸ Ext.app _ _
  have hmm:D[C0.length]?=some M:=by rw [← hD,hC];simp
  have hgt:=setOf_get same_str key_str hS x.d hmm
  have hgD:getC D C.length 0=some (insC x av lv):=by rw [← hD];exact getC_new C 0 _
  have hsD:∀ c,(C ++ [c]).set C.length (Ob.cells 0 (insC x av lv))=D:=fun c=>by rw [← hD];exact set_snoc C c _
  obtain ⟨M',u1,u2⟩:=setOf_put same_str key_str hS x.d (H:=D) (base:=base) (j:=C0.length) (by omega) hmm
  have hset:D.set C0.length M'=C0 ++ [M'] ++ (G ++ [Ob.cells 0 (insC x av lv)]):=by rw [← hD,hC];simp
  rw [hset] at u1
  obtain ⟨G2,hG2⟩:=trim_app2 (C:=C0 ++ [M']) (m:=L) (by rw [len_snoc];exact hL) (frOf 76 [(2,.ref A.length 0 0),(4,Iz i),(6,.mp C0.length),(9,Iz b),(17,v17),(18,Iz n18),(19,Iz n19),(41,v41),(42,Iz n42),(43,Iz n43),(49,cv),(50,Iz l.length),(51,Iz (k+1:Nat))]) (G ++ [Ob.cells 0 (insC x av lv)])
  have hS':SetOf eS (fun s=>S s || seenD (l.take (k+1)) s) M':=u2.congr fun s=>by
   unfold seenD
   rw [List.take_add_one,hkx,List.any_append]
   simp [eq_comm,Bool.or_assoc]
  have hg2:=getC_ext hg (hE0.trans hED)
  have eN:=((hEA.trans hED).set (Nat.le_refl _) (.cells 0 [Iz i,Iz b,Iz k])).trim (m:=L) (by omega) (frOf 76 [(2,.ref A.length 0 0),(3,bl true)])
  have tN:=trim_get (m:=L) (fr:=frOf 76 [(2,.ref A.length 0 0),(3,bl true)]) (getC_put (c':=[Iz i,Iz b,Iz k]) hg2) (by omega)
  unfold tvI
  simp only [Iz,insC] at hG2 hgD hsD hg2 u1 ld
  cases he:(x.d.data.toList == []) with
  | true=>
    refine .inl ⟨by rw [Bool.not_true,Bool.false_and,if_neg Bool.false_ne_true],C0 ++ [M'] ++ G2,?_,M',G2,rfl,hS'⟩
    rw [itW_step]
    simp only [insC,Iz,bl,a_f36,s_f36_l0_b,s_f36_l1_b,s_f36_l2_b,s_f36_l3_b,aa,reduceIte,reduceCtorEq,Nat.reduceEqDiff,Nat.reduceLT,Nat.reduceLeDiff,Nat.reduceBEq,Nat.reduceAdd,Nat.reduceMul,op_mapUpd,hlt',a1,ld,hbC,hgg,hsD,hav,hlv,Bool.and_self,hgD,he,hgt,u1,hwk,hG2]
  | false=>
    cases hs:(S x.d || seenD (l.take k) x.d) with
    | true=>
      rw [hs] at hgt
      refine .inr ⟨(i,b,k),by rw [Bool.not_false,Bool.true_and,if_pos rfl],_,?_,eN,tN⟩
      rw [itW_step]
      simp only [insC,Iz,bl,a_f36,s_f36_l0_b,s_f36_l1_b,s_f36_l2_b,s_f36_l3_b,aa,reduceIte,reduceCtorEq,Nat.reduceEqDiff,Nat.reduceLT,Nat.reduceLeDiff,Nat.reduceBEq,Nat.reduceAdd,Nat.reduceMul,hlt',a1,ld,hbC,hgg,hsD,hav,hlv,Bool.and_self,hgD,he,hgt,hg2,hb]
    | false=>
      rw [hs] at hgt
      refine .inl ⟨by rw [Bool.not_false,Bool.true_and,if_neg Bool.false_ne_true],C0 ++ [M'] ++ G2,?_,M',G2,rfl,hS'⟩
      rw [itW_step]
      simp only [insC,Iz,bl,a_f36,s_f36_l0_b,s_f36_l1_b,s_f36_l2_b,s_f36_l3_b,aa,reduceIte,reduceCtorEq,Nat.reduceEqDiff,Nat.reduceLT,Nat.reduceLeDiff,Nat.reduceBEq,Nat.reduceAdd,Nat.reduceMul,op_mapUpd,hlt',a1,ld,hbC,hgg,hsD,hav,hlv,Bool.and_self,hgD,he,hgt,u1,hwk,hG2]) C0' (by simpa using hC0) with ⟨e1,C,e2,M,G,e3,e4⟩ | e
 ·obtain ⟨G2,hG2⟩:=trim_app2 (C:=C0 ++ [M]) (m:=L) (by rw [len_snoc];exact hL) (frOf 76 [(2,.ref A.length 0 0),(4,Iz i),(6,.mp C0.length),(9,Iz b),(17,v17),(18,Iz n18),(19,Iz n19),(41,v41),(42,Iz n42),(43,Iz n43),(49,cv),(50,Iz l.length),(51,Iz l.length),(52,bl false)]) G
  refine .inl ⟨e1,C0 ++ [M] ++ G2,?_,M,G2,rfl,by rw [List.take_length] at e4;exact e4⟩
  rw [cast0] at e2
  refine e2.trans ?_
  subst e3
  rw [itW_step]
  simp only [Iz,bl] at hG2
  simp only [Iz,bl,a_f36,s_f36_l0_b,s_f36_l1_b,s_f36_l2_b,s_f36_l3_b,aa,reduceIte,reduceCtorEq,Nat.reduceEqDiff,Nat.reduceLT,Nat.reduceLeDiff,Nat.reduceBEq,Nat.reduceAdd,Nat.reduceMul,Int.lt_irrefl,hG2]
 ·rw [cast0] at e
  exact .inr e
theorem tv_l2 (base:Nat) {A C0:Heap} (h1:Ext A C0) (hb:base≤A.length) (hg:getC C0 A.length 0=some [Iz 0,Iz 0,Iz 0]) (hA:A.length < C0.length) {L:Nat} (hL:C0.length+1≤L) {i:Nat} {v17 bv:V} {n18 n19:Int} {l:List BlkD} (hv:RdL 2 RdBlk A bv l) (hnc:∀ b∈l,b.code.length < 2 ^ 20) (hn:l.length < 2 ^ 20) {S:ByteArray→Bool}:
 ∀ C,(∃ M G,C=C0 ++ [M] ++ G∧SetOf eS (fun s=>S s || seenB ([]) s) M)→(srch (tvB S l i) l 0=none∧∃ C',itW (evC (callW CT) itW base s_f36_l2) [] L (frOf 76 [(2,.ref A.length 0 0),(4,Iz i),(6,.mp C0.length),(17,v17),(18,Iz n18),(19,Iz n19),(41,bv),(42,Iz l.length),(43,Iz 0)]) C=some (.ext 4,frOf 76 [(2,.ref A.length 0 0),(4,Iz i),(6,.mp C0.length),(17,v17),(18,Iz n18),(19,Iz n19),(41,bv),(42,Iz l.length),(43,Iz l.length),(44,bl false)],C')∧∃ M G,C'=C0 ++ [M] ++ G∧SetOf eS (fun s=>S s || seenB (l) s) M)∨∃ t,srch (tvB S l i) l 0=some t∧Found A 76 A.length t (itW (evC (callW CT) itW base s_f36_l2) [] L (frOf 76 [(2,.ref A.length 0 0),(4,Iz i),(6,.mp C0.length),(17,v17),(18,Iz n18),(19,Iz n19),(41,bv),(42,Iz l.length),(43,Iz 0)]) C):=by
 intro C0' hC0
 rcases it_srch l blk0 (tvB S l i) (fun k C=>∃ M G,C=C0 ++ [M] ++ G∧SetOf eS (fun s=>S s || seenB (l.take k) s) M) (fun k C=>itW (evC (callW CT) itW base s_f36_l2) [] L (frOf 76 [(2,.ref A.length 0 0),(4,Iz i),(6,.mp C0.length),(17,v17),(18,Iz n18),(19,Iz n19),(41,bv),(42,Iz l.length),(43,Iz k)]) C) (Found A 76 A.length) (by
  intro k C hk ⟨M,G,hC,hS⟩
  have hlt':((k:Int) < (l.length:Int)):=by omega
  have hwk:=w64 (n:=k) (by omega)
  have hkx:=some_getD hk blk0
  obtain ⟨x,hxe⟩:∃ x,l.getD k blk0=x:=⟨_,rfl⟩
  have hk':=hk
  have hxe':=hxe
  rw [hxe] at hkx ⊢
  have hmem:=List.mem_of_getElem? hkx
  have hE0:Ext C0 C:=hC ▸ (Ext.app C0 [M]).trans ⟨G,rfl⟩
  have hEA:=h1.trans hE0
  have hle:=hE0.le
  have hbC:base≤C.length:=by omega
  have hgg:∀ c,getC (C ++ [Ob.cells 0 c]) C.length 0=some c:=fun c=>getC_new C 0 c
  have hss:∀ c d,(C ++ [c]).set C.length d=C ++ [d]:=fun c d=>set_snoc C c d
  have eC:∀ c,Ext C (C ++ [Ob.cells 0 c]):=fun c=>Ext.app _ _
  obtain ⟨a,r,a1,hr,a2,_⟩:=hv.at2 hkx
  have ld:=a2 C hEA
  obtain ⟨cv,rfl,hcv⟩:=hr
  have hcl:=(rdI_ext hcv (hEA.trans (eC [Sb x.label,cv]))).len
  have hco:=hcv.one
  have hl2:(C ++ [Ob.cells 0 [Sb x.label,cv]]).length=C.length+1:=by simp
  have hLC:C0.length+1≤C.length+1:=by omega
  have hin:=tv_l1 (CT:=CT) (v17:=v17) (v41:=bv) (i:=i) (b:=k) (n18:=n18) (n19:=n19) (n42:=l.length) (n43:=k) base h1 hb hg hA hLC hcv (hnc x hmem) (S:=fun s=>S s || seenB (l.take k) s) (C ++ [Ob.cells 0 [Sb x.label,cv]]) ⟨M,G ++ [Ob.cells 0 [Sb x.label,cv]],by rw [hC];simp,by simpa [seenD] using hS⟩
  unfold tvB
  rcases hin with ⟨z1,C2,z2,M2,G2,z3,z4⟩ | ⟨t,z1,D,z2,z3,z4⟩
  ·subst z3
   obtain ⟨G3,hG3⟩:=trim_app2 (C:=C0 ++ [M2]) (m:=L) (by rw [len_snoc];exact hL) (frOf 76 [(2,.ref A.length 0 0),(4,Iz i),(6,.mp C0.length),(17,v17),(18,Iz n18),(19,Iz n19),(41,bv),(42,Iz l.length),(43,Iz (k+1:Nat))]) G2
   refine .inl ⟨z1,C0 ++ [M2] ++ G3,?_,M2,G3,rfl,z4.congr fun s=>?_⟩
   ·rw [itW_step]
    simp only [Iz,bl] at z2 hG3
    simp only [Iz,bl,a_f36,s_f36_l0_b,s_f36_l1_b,s_f36_l2_b,s_f36_l3_b,aa,reduceIte,reduceCtorEq,Nat.reduceEqDiff,Nat.reduceLT,Nat.reduceLeDiff,Nat.reduceBEq,Nat.reduceAdd,Nat.reduceMul,hlt',a1,ld,hbC,hgg,hss,hco,Bool.and_self,hcl,hl2,z2,hwk,hG3]
   ·unfold seenB
    rw [List.take_add_one,hkx,List.any_append]
    simp [Bool.or_assoc]
  ·refine .inr ⟨t,z1,trim L (frOf 76 [(2,.ref A.length 0 0),(3,bl true)]) D,?_,z3.trim (by omega) _,trim_get z4 (by omega)⟩
   rw [itW_step]
   simp only [Iz,bl] at z2
   simp only [Iz,bl,a_f36,s_f36_l0_b,s_f36_l1_b,s_f36_l2_b,s_f36_l3_b,aa,reduceIte,reduceCtorEq,Nat.reduceEqDiff,Nat.reduceLT,Nat.reduceLeDiff,Nat.reduceBEq,Nat.reduceAdd,Nat.reduceMul,hlt',a1,ld,hbC,hgg,hss,hco,Bool.and_self,hcl,hl2,z2]) C0' (by simpa using hC0) with ⟨e1,C,e2,M,G,e3,e4⟩ | e
 ·obtain ⟨G2,hG2⟩:=trim_app2 (C:=C0 ++ [M]) (m:=L) (by rw [len_snoc];exact hL) (frOf 76 [(2,.ref A.length 0 0),(4,Iz i),(6,.mp C0.length),(17,v17),(18,Iz n18),(19,Iz n19),(41,bv),(42,Iz l.length),(43,Iz l.length),(44,bl false)]) G
  refine .inl ⟨e1,C0 ++ [M] ++ G2,?_,M,G2,rfl,by rw [List.take_length] at e4;exact e4⟩
  rw [cast0] at e2
  refine e2.trans ?_
  subst e3
  rw [itW_step]
  simp only [Iz,bl] at hG2
  simp only [Iz,bl,a_f36,s_f36_l0_b,s_f36_l1_b,s_f36_l2_b,s_f36_l3_b,aa,reduceIte,reduceCtorEq,Nat.reduceEqDiff,Nat.reduceLT,Nat.reduceLeDiff,Nat.reduceBEq,Nat.reduceAdd,Nat.reduceMul,Int.lt_irrefl,hG2]
 ·rw [cast0] at e
  exact .inr e
theorem tv_l3 (base:Nat) {A A1:Heap} (h1:Ext A A1) (hb:base≤A.length) (hg:getC A1 A.length 0=some [Iz 0,Iz 0,Iz 0]) {fv:V} {l:List FunD} (hv:RdL 3 RdFun A fv l) (hn:l.length < 2 ^ 20) (hps:∀ f∈l,f.ps.length < 2 ^ 20) (hnb:∀ f∈l,f.blocks.length < 2 ^ 20) (hnc:∀ f∈l,∀ b∈f.blocks,b.code.length < 2 ^ 20) {L:Nat} (hL:A1.length≤L) (hA1:A.length < A1.length):
 ∀ C,Ext A1 C→(srch (tvF) l 0=none∧∃ C',itW (evC (callW CT) itW base s_f36_l3) [] L (frOf 76 [(2,.ref A.length 0 0),(17,fv),(18,Iz l.length),(19,Iz 0)]) C=some (.ext 0,frOf 76 [(2,.ref A.length 0 0),(17,fv),(18,Iz l.length),(19,Iz l.length),(20,bl false)],C')∧Ext A1 C')∨∃ t,srch (tvF) l 0=some t∧Found A 76 A.length t (itW (evC (callW CT) itW base s_f36_l3) [] L (frOf 76 [(2,.ref A.length 0 0),(17,fv),(18,Iz l.length),(19,Iz 0)]) C):=by
 intro C0 hC0
 rcases it_srch l fun0 (tvF) (fun _ C=>Ext A1 C) (fun k C=>itW (evC (callW CT) itW base s_f36_l3) [] L (frOf 76 [(2,.ref A.length 0 0),(17,fv),(18,Iz l.length),(19,Iz k)]) C) (Found A 76 A.length) (by
  intro k C hk hE
  have hlt':((k:Int) < (l.length:Int)):=by omega
  have hwk:=w64 (n:=k) (by omega)
  have hle:=hE.le
  have hkx:=some_getD hk fun0
  obtain ⟨x,hxe⟩:∃ x,l.getD k fun0=x:=⟨_,rfl⟩
  rw [hxe] at hkx ⊢
  have hmem:=List.mem_of_getElem? hkx
  obtain ⟨a,r,a1,hr,a2,_⟩:=hv.at2 hkx
  have hEA:=h1.trans hE
  have ld:=a2 C hEA
  have hbC:base≤C.length:=by omega
  have hgg:∀ c,getC (C ++ [Ob.cells 0 c]) C.length 0=some c:=fun c=>getC_new C 0 c
  have hss:∀ c d,(C ++ [c]).set C.length d=C ++ [d]:=fun c d=>set_snoc C c d
  have eC:∀ c,Ext C (C ++ [Ob.cells 0 c]):=fun c=>Ext.app _ _
  have g2:∀ D,Ext A1 D→getC D A.length 0=some [Iz 0,Iz 0,Iz 0]:=fun D h=>getC_ext hg h
  obtain ⟨pv,bv,rfl,q1,q2,q3,hbv⟩:=hr
  have hpl:=Sb_len (q1.ext (hEA.trans (eC [Sb x.name,pv,bv])))
  have hpo:=q1.one
  have hbo:=hbv.one
  have hbl:=(rdB_ext hbv (hEA.trans (eC [Sb x.name,pv,bv]))).len
  have hl2:(C ++ [Ob.cells 0 [Sb x.name,pv,bv]]).length=C.length+1:=by simp
  have eM:Ext C (C ++ [Ob.cells 0 [Sb x.name,pv,bv]] ++ [Ob.map []]):=(eC [Sb x.name,pv,bv]).trans (Ext.app (C ++ [Ob.cells 0 [Sb x.name,pv,bv]]) [Ob.map []])
  have hpl0:=Sb_len (q1.ext (hEA.trans eM))
  have hl3:(C ++ [Ob.cells 0 [Sb x.name,pv,bv]] ++ [Ob.map []]).length=C.length+2:=by simp
  have hgf:getC (C ++ [Ob.cells 0 [Sb x.name,pv,bv]] ++ [Ob.map []]) C.length 0=some [Sb x.name,pv,bv]:=getC_ext (hgg _) (Ext.app _ _)
  have hA0:A.length < (C ++ [Ob.cells 0 [Sb x.name,pv,bv]]).length:=by rw [len_snoc];omega
  unfold tvF
  have hin:=tv_l0 (CT:=CT) (v17:=fv) (p5:=C.length) (i:=k) (n18:=l.length) (n19:=k) base (C0:=C ++ [Ob.cells 0 [Sb x.name,pv,bv]]) (hEA.trans (eC _)) hb (g2 _ (hE.trans (eC _))) hA0 (L:=C.length+2) (by rw [hl2];omega) q1 q2 (hps x hmem) (C ++ [Ob.cells 0 [Sb x.name,pv,bv]] ++ [Ob.map []]) ⟨.map [],[],(List.append_nil _).symm,setOf_nil eS⟩
  rw [hl2] at hin
  rcases hin with ⟨z1,C2,z2,M2,G2,z3,z4⟩ | ⟨t,z1,D,z2,z3,z4⟩
  ·rw [z1]
   have e02:Ext (C ++ [Ob.cells 0 [Sb x.name,pv,bv]]) C2:=z3 ▸ (Ext.app _ [M2]).trans ⟨G2,rfl⟩
   have hgf2:getC C2 C.length 0=some [Sb x.name,pv,bv]:=getC_ext (hgg _) e02
   have hbl2:=(rdB_ext hbv (hEA.trans ((eC _).trans e02))).len
   have hL2:(C ++ [Ob.cells 0 [Sb x.name,pv,bv]]).length+1≤C2.length:=by rw [z3];simp;omega
   have hin2:=tv_l2 (CT:=CT) (v17:=fv) (i:=k) (n18:=l.length) (n19:=k) base (C0:=C ++ [Ob.cells 0 [Sb x.name,pv,bv]]) (hEA.trans (eC _)) hb (g2 _ (hE.trans (eC _))) hA0 hL2 hbv (hnc x hmem) (hnb x hmem) (S:=seenS x.ps) C2 ⟨M2,G2,z3,by simpa [seenB] using z4⟩
   rw [hl2] at hin2
   rcases hin2 with ⟨y1,C3,y2,M3,G3,y3,y4⟩ | ⟨t,y1,D,y2,y3,y4⟩
   ·have e03:Ext (C ++ [Ob.cells 0 [Sb x.name,pv,bv]]) C3:=y3 ▸ (Ext.app _ [M3]).trans ⟨G3,rfl⟩
    refine .inl ⟨y1,trim L (frOf 76 [(2,.ref A.length 0 0),(17,fv),(18,Iz l.length),(19,Iz (k+1:Nat))]) C3,?_,((hE.trans (eC _)).trans e03).trim (by omega) _⟩
    rw [itW_step]
    simp only [Iz,bl] at z2 y2
    simp only [Iz,bl,a_f36,s_f36_l0_b,s_f36_l1_b,s_f36_l2_b,s_f36_l3_b,aa,reduceIte,reduceCtorEq,Nat.reduceEqDiff,Nat.reduceLT,Nat.reduceLeDiff,Nat.reduceBEq,Nat.reduceAdd,Nat.reduceMul,op_mapNew,hlt',a1,ld,hbC,hgg,hss,hpo,hbo,Bool.and_self,hpl0,hl2,hl3,hgf,z2,hgf2,hbl2,y2,hwk]
   ·refine .inr ⟨t,y1,trim L (frOf 76 [(2,.ref A.length 0 0),(3,bl true)]) D,?_,y3.trim (by omega) _,trim_get y4 (by omega)⟩
    rw [itW_step]
    simp only [Iz,bl] at z2 y2
    simp only [Iz,bl,a_f36,s_f36_l0_b,s_f36_l1_b,s_f36_l2_b,s_f36_l3_b,aa,reduceIte,reduceCtorEq,Nat.reduceEqDiff,Nat.reduceLT,Nat.reduceLeDiff,Nat.reduceBEq,Nat.reduceAdd,Nat.reduceMul,op_mapNew,hlt',a1,ld,hbC,hgg,hss,hpo,hbo,Bool.and_self,hpl0,hl2,hl3,hgf,z2,hgf2,hbl2,y2]
  ·rw [z1]
   refine .inr ⟨t,rfl,trim L (frOf 76 [(2,.ref A.length 0 0),(3,bl true)]) D,?_,z3.trim (by omega) _,trim_get z4 (by omega)⟩
   rw [itW_step]
   simp only [Iz,bl] at z2
   simp only [Iz,bl,a_f36,s_f36_l0_b,s_f36_l1_b,s_f36_l2_b,s_f36_l3_b,aa,reduceIte,reduceCtorEq,Nat.reduceEqDiff,Nat.reduceLT,Nat.reduceLeDiff,Nat.reduceBEq,Nat.reduceAdd,Nat.reduceMul,op_mapNew,hlt',a1,ld,hbC,hgg,hss,hpo,hbo,Bool.and_self,hpl0,hl2,hl3,hgf,z2]) C0 hC0 with ⟨e1,C,e2,e3⟩ | e
 ·refine .inl ⟨e1,trim L (frOf 76 [(2,.ref A.length 0 0),(17,fv),(18,Iz l.length),(19,Iz l.length),(20,bl false)]) C,?_,e3.trim (by omega) _⟩
  rw [cast0] at e2
  refine e2.trans ?_
  rw [itW_step]
  simp only [Iz,bl,a_f36,s_f36_l0_b,s_f36_l1_b,s_f36_l2_b,s_f36_l3_b,aa,reduceIte,reduceCtorEq,Nat.reduceEqDiff,Nat.reduceLT,Nat.reduceLeDiff,Nat.reduceBEq,Nat.reduceAdd,Nat.reduceMul,Int.lt_irrefl]
 ·rw [cast0] at e
  exact .inr e
theorem twiceVar_fun (hT:CT k_f36=some (.code s_f36)) (base:Nat) {A:Heap} (hb:base≤A.length) {w sm:Nat} {fv:V} {fs:List FunD} (hc:NC A w sm fv fs):
 ∃ H',callW CT (.fn k_f36 [] []) [.ref w 0 0] base A=some (resP (srch tvF fs 0),H')∧Ext A H':=by
 have e1:Ext A (A ++ [Ob.cells 0 [Iz 0,Iz 0,Iz 0]]):=Ext.app _ _
 have x1:=hc.load e1
 have hl:=(hc.rd.ext e1).len
 have g1:getC (A ++ [Ob.cells 0 [Iz 0,Iz 0,Iz 0]]) A.length 0=some [Iz 0,Iz 0,Iz 0]:=getC_new A 0 _
 have hl1:(A ++ [Ob.cells 0 [Iz 0,Iz 0,Iz 0]]).length=A.length+1:=by simp
 rcases tv_l3 (CT:=CT) base e1 hb g1 hc.rd hc.sml.n hc.sml.ps hc.sml.nb hc.sml.nc (L:=A.length+1) (by omega) (by omega) (A ++ [Ob.cells 0 [Iz 0,Iz 0,Iz 0]]) (Ext.refl _) with ⟨q1,C,q2,q3⟩ | ⟨⟨i,b,k⟩,q1,D,q2,q3,q4⟩
 ·have g2:=getC_ext g1 q3
  have g3:=getC_put (c':=[Iz 0,Iz 0,Iz 0]) g2
  refine ⟨C.set A.length (.cells 0 [Iz 0,Iz 0,Iz 0]),callW_fnA (c:=s_f36) (k:=1) hT rfl (by decide) s_f36_first ?_,(e1.trans q3).set (Nat.le_refl _) _⟩
  rw [q1]
  have xR:loadV (C.set A.length (.cells 0 [Iz 0,Iz 0,Iz 0])) true 3 (.ref A.length 0 0)=some (.agg [Iz 0,Iz 0,Iz 0]):=by
   show xLoad _ true 3 _=_
   rw [xo_ref,g3];rfl
  simp only [Iz,bl] at x1 hl hl1 q2 g2 xR
  simp only [Iz,s_f36,a_f36,s_f36_l0_b,s_f36_l1_b,s_f36_l2_b,s_f36_l3_b,aa,reduceIte,reduceCtorEq,Nat.reduceEqDiff,Nat.reduceLT,Nat.reduceLeDiff,Nat.reduceBEq,Nat.reduceAdd,Nat.reduceMul,x1,hl,hl1,q2,g2,hb]
  rw [xR]
  rfl
 ·refine ⟨D,callW_fnA (c:=s_f36) (k:=1) hT rfl (by decide) s_f36_first ?_,q3⟩
  rw [q1]
  have xR:loadV D true 3 (.ref A.length 0 0)=some (.agg [Iz i,Iz b,Iz k]):=by
   show xLoad _ true 3 _=_
   rw [xo_ref,q4];rfl
  simp only [Iz,bl] at x1 hl hl1 q2 xR
  simp only [Iz,s_f36,a_f36,s_f36_l0_b,s_f36_l1_b,s_f36_l2_b,s_f36_l3_b,aa,reduceIte,reduceCtorEq,Nat.reduceEqDiff,Nat.reduceLT,Nat.reduceLeDiff,Nat.reduceBEq,Nat.reduceAdd,Nat.reduceMul,x1,hl,hl1,q2]
  rw [xR]
  rfl
end
end Go.Proofs.YtamlbkalopefgaaR
set_option maxRecDepth 100000
namespace Go.Proofs.YtamlbkalopefgaaR
open Go.AM
def nvH (C0:Heap) (M:Ob) (G:Heap):Heap:=C0 ++ [M] ++ [.cells 0 [.mp C0.length]] ++ G
theorem nvH_ext (C0:Heap) (M:Ob) (G:Heap):Ext C0 (nvH C0 M G):=⟨[M] ++ [.cells 0 [.mp C0.length]] ++ G,by simp [nvH]⟩
theorem nvH_len (C0:Heap) (M:Ob):(nvH C0 M []).length=C0.length+2:=by simp [nvH]
theorem nvH_app (C0:Heap) (M:Ob) (G:Heap):nvH C0 M G=nvH C0 M [] ++ G:=by simp [nvH]
theorem nvH_more (C0:Heap) (M:Ob) (G G':Heap):nvH C0 M G ++ G'=nvH C0 M (G ++ G'):=by simp [nvH]
theorem nvH_m (C0:Heap) (M:Ob) (G:Heap):(nvH C0 M G)[C0.length]?=some M:=by simp [nvH]
theorem nvH_c (C0:Heap) (M:Ob) (G:Heap):getC (nvH C0 M G) (C0.length+1) 0=some [.mp C0.length]:=by simp [nvH,getC]
theorem nvH_set (C0:Heap) (M M':Ob) (G:Heap):(nvH C0 M G).set C0.length M'=nvH C0 M' G:=by simp [nvH]
section
variable {CT:Nat→Option CFun}
theorem nv_l0 (base:Nat) {A C0:Heap} (h1:Ext A C0) (hb:base≤A.length) (hA:A.length < C0.length) {L:Nat} (hL:C0.length+2≤L) {i p5:Nat} {v21:V} {n22 n23:Int} {pv:V} {l:List ByteArray} (hv:Rd A pv (l.map Sb)) (hw:Wide1 pv) (hn:l.length < 2 ^ 20) {S:ByteArray→Bool}:
 ∀ C,(∃ M G,C=nvH C0 M G∧SetOf eS S M)→∃ C',itW (evC (callW CT) itW base s_f37_l0) [] L (frOf 93 [(2,.ref A.length 0 0),(4,Iz i),(5,.ref p5 0 0),(6,.ref (C0.length+1) 0 0),(21,v21),(22,Iz n22),(23,Iz n23),(31,pv),(32,Iz l.length),(33,Iz 0)]) C=some (.ext 2,frOf 93 [(2,.ref A.length 0 0),(4,Iz i),(5,.ref p5 0 0),(6,.ref (C0.length+1) 0 0),(21,v21),(22,Iz n22),(23,Iz n23),(31,pv),(32,Iz l.length),(33,Iz l.length),(34,bl false)],C')∧∃ M G,C'=nvH C0 M G∧SetOf eS (fun s=>S s || seenS (l) s) M:=by
 intro C0' hC0
 obtain ⟨C,e2,M,G,e3,e4⟩:=it_rel l.length (fun k C=>∃ M G,C=nvH C0 M G∧SetOf eS (fun s=>S s || seenS (l.take k) s) M) (fun k C=>itW (evC (callW CT) itW base s_f37_l0) [] L (frOf 93 [(2,.ref A.length 0 0),(4,Iz i),(5,.ref p5 0 0),(6,.ref (C0.length+1) 0 0),(21,v21),(22,Iz n22),(23,Iz n23),(31,pv),(32,Iz l.length),(33,Iz k)]) C) (by
  intro k C hk ⟨M,G,hC,hS⟩
  have hlt':((k:Int) < (l.length:Int)):=by omega
  have hwk:=w64 (n:=k) (by omega)
  have hkx:=some_getD hk ⟨#[]⟩
  obtain ⟨x,hxe⟩:∃ x,l.getD k ⟨#[]⟩=x:=⟨_,rfl⟩
  have hk':=hk
  have hxe':=hxe
  rw [hxe] at hkx
  have hmem:=List.mem_of_getElem? hkx
  have hE0:Ext C0 C:=hC ▸ nvH_ext C0 M G
  have hEA:=h1.trans hE0
  have hle:=hE0.le
  have hbC:base≤C.length:=by omega
  have hgg:∀ c,getC (C ++ [Ob.cells 0 c]) C.length 0=some c:=fun c=>getC_new C 0 c
  have hss:∀ c d,(C ++ [c]).set C.length d=C ++ [d]:=fun c d=>set_snoc C c d
  have eC:∀ c,Ext C (C ++ [Ob.cells 0 c]):=fun c=>Ext.app _ _
  obtain ⟨a,a1,a2⟩:=Sb_at (hv.ext hEA) hw hk'
  rw [hxe'] at a2
  have hx:=getC_load (nvH_c C0 M G)
  rw [← hC] at hx
  obtain ⟨M',u1,u2⟩:=setOf_put same_str key_str hS x (H:=C) (base:=base) (j:=C0.length) (by omega) (by rw [hC];exact nvH_m C0 M G)
  rw [show C.set C0.length M'=nvH C0 M' G by rw [hC];exact nvH_set C0 M M' G] at u1
  obtain ⟨G2,hG2⟩:=trim_app2 (C:=nvH C0 M' []) (m:=L) (by rw [nvH_len];exact hL) (frOf 93 [(2,.ref A.length 0 0),(4,Iz i),(5,.ref p5 0 0),(6,.ref (C0.length+1) 0 0),(21,v21),(22,Iz n22),(23,Iz n23),(31,pv),(32,Iz l.length),(33,Iz (k+1:Nat))]) G
  rw [← nvH_app,← nvH_app] at hG2
  refine ⟨nvH C0 M' G2,?_,M',G2,rfl,u2.congr fun s=>?_⟩
  ·rw [itW_step]
   simp only [Iz] at hG2
   simp only [Iz,bl,a_f37,s_f37_l0_b,s_f37_l1_b,s_f37_l2_b,s_f37_l3_b,s_f37_l4_b,s_f37_l5_b,aa,reduceIte,reduceCtorEq,Nat.reduceEqDiff,Nat.reduceLT,Nat.reduceLeDiff,Nat.reduceBEq,Nat.reduceAdd,Nat.reduceMul,op_mapUpd,hlt',a1,a2,hx,u1,hwk,hG2]
  ·unfold seenS
   rw [List.take_add_one,hkx,List.any_append]
   simp [eq_comm,Bool.or_assoc]) 0 C0' (Nat.zero_le _) (by simpa [seenS,seenD,seenB] using hC0)
 obtain ⟨G2,hG2⟩:=trim_app2 (C:=nvH C0 M []) (m:=L) (by rw [nvH_len];exact hL) (frOf 93 [(2,.ref A.length 0 0),(4,Iz i),(5,.ref p5 0 0),(6,.ref (C0.length+1) 0 0),(21,v21),(22,Iz n22),(23,Iz n23),(31,pv),(32,Iz l.length),(33,Iz l.length),(34,bl false)]) G
 rw [← nvH_app,← nvH_app] at hG2
 refine ⟨nvH C0 M G2,?_,M,G2,rfl,by rw [List.take_length] at e4;exact e4⟩
 rw [cast0] at e2
 refine e2.trans ?_
 subst e3
 rw [itW_step]
 simp only [Iz,bl] at hG2
 simp only [Iz,bl,a_f37,s_f37_l0_b,s_f37_l1_b,s_f37_l2_b,s_f37_l3_b,s_f37_l4_b,s_f37_l5_b,aa,reduceIte,reduceCtorEq,Nat.reduceEqDiff,Nat.reduceLT,Nat.reduceLeDiff,Nat.reduceBEq,Nat.reduceAdd,Nat.reduceMul,Int.lt_irrefl,hG2]
theorem nv_l1 (base:Nat) {A C0:Heap} (h1:Ext A C0) (hb:base≤A.length) (hA:A.length < C0.length) {L:Nat} (hL:C0.length+2≤L) {i p5:Nat} {v21:V} {n22 n23:Int} {v41 cv:V} {n42 n43:Int} {l:List InsD} (hv:RdL 8 RdIns A cv l) (hn:l.length < 2 ^ 20) {S:ByteArray→Bool}:
 ∀ C,(∃ M G,C=nvH C0 M G∧SetOf eS S M)→∃ C',itW (evC (callW CT) itW base s_f37_l1) [] L (frOf 93 [(2,.ref A.length 0 0),(4,Iz i),(5,.ref p5 0 0),(6,.ref (C0.length+1) 0 0),(21,v21),(22,Iz n22),(23,Iz n23),(41,v41),(42,Iz n42),(43,Iz n43),(48,cv),(49,Iz l.length),(50,Iz 0)]) C=some (.ext 6,frOf 93 [(2,.ref A.length 0 0),(4,Iz i),(5,.ref p5 0 0),(6,.ref (C0.length+1) 0 0),(21,v21),(22,Iz n22),(23,Iz n23),(41,v41),(42,Iz n42),(43,Iz n43),(48,cv),(49,Iz l.length),(50,Iz l.length),(51,bl false)],C')∧∃ M G,C'=nvH C0 M G∧SetOf eS (fun s=>S s || seenD (l) s) M:=by
 intro C0' hC0
 obtain ⟨C,e2,M,G,e3,e4⟩:=it_rel l.length (fun k C=>∃ M G,C=nvH C0 M G∧SetOf eS (fun s=>S s || seenD (l.take k) s) M) (fun k C=>itW (evC (callW CT) itW base s_f37_l1) [] L (frOf 93 [(2,.ref A.length 0 0),(4,Iz i),(5,.ref p5 0 0),(6,.ref (C0.length+1) 0 0),(21,v21),(22,Iz n22),(23,Iz n23),(41,v41),(42,Iz n42),(43,Iz n43),(48,cv),(49,Iz l.length),(50,Iz k)]) C) (by
  intro k C hk ⟨M,G,hC,hS⟩
  have hlt':((k:Int) < (l.length:Int)):=by omega
  have hwk:=w64 (n:=k) (by omega)
  have hkx:=some_getD hk ins0
  obtain ⟨x,hxe⟩:∃ x,l.getD k ins0=x:=⟨_,rfl⟩
  have hk':=hk
  have hxe':=hxe
  rw [hxe] at hkx
  have hmem:=List.mem_of_getElem? hkx
  have hE0:Ext C0 C:=hC ▸ nvH_ext C0 M G
  have hEA:=h1.trans hE0
  have hle:=hE0.le
  have hbC:base≤C.length:=by omega
  have hgg:∀ c,getC (C ++ [Ob.cells 0 c]) C.length 0=some c:=fun c=>getC_new C 0 c
  have hss:∀ c d,(C ++ [c]).set C.length d=C ++ [d]:=fun c d=>set_snoc C c d
  have eC:∀ c,Ext C (C ++ [Ob.cells 0 c]):=fun c=>Ext.app _ _
  obtain ⟨a,r,a1,hr,a2,_⟩:=hv.at2 hkx
  have ld:=a2 C hEA
  obtain ⟨av,lv,rfl,q1,q2,q3,q4,_⟩:=hr
  have hav:=q1.one
  have hlv:=q3.one
  obtain ⟨D,hD⟩:∃ D,C ++ [Ob.cells 0 (insC x av lv)]=D:=⟨_,rfl⟩
  have hDn:D=nvH C0 M (G ++ [Ob.cells 0 (insC x av lv)]):=by rw [← hD,hC,nvH_more]
  have hx:xLoad D false 1 (.ref (C0.length+1) 0 0)=some (.mp C0.length):=getC_load (hDn ▸ nvH_c C0 M _)
  have hgD:getC D C.length 0=some (insC x av lv):=by rw [← hD];exact getC_new C 0 _
  have hsD:∀ c,(C ++ [c]).set C.length (Ob.cells 0 (insC x av lv))=D:=fun c=>by rw [← hD];exact set_snoc C c _
  obtain ⟨M',u1,u2⟩:=setOf_put same_str key_str hS x.d (H:=D) (base:=base) (j:=C0.length) (by omega) (by rw [hDn];exact nvH_m C0 M _)
  rw [show D.set C0.length M'=nvH C0 M' (G ++ [Ob.cells 0 (insC x av lv)]) by rw [hDn];exact nvH_set C0 M M' _] at u1
  obtain ⟨G2,hG2⟩:=trim_app2 (C:=nvH C0 M' []) (m:=L) (by rw [nvH_len];exact hL) (frOf 93 [(2,.ref A.length 0 0),(4,Iz i),(5,.ref p5 0 0),(6,.ref (C0.length+1) 0 0),(21,v21),(22,Iz n22),(23,Iz n23),(41,v41),(42,Iz n42),(43,Iz n43),(48,cv),(49,Iz l.length),(50,Iz (k+1:Nat))]) (G ++ [Ob.cells 0 (insC x av lv)])
  rw [← nvH_app,← nvH_app] at hG2
  refine ⟨nvH C0 M' G2,?_,M',G2,rfl,u2.congr fun s=>?_⟩
  ·rw [itW_step]
   simp only [Iz,insC] at hG2 hgD hsD u1 ld
   simp only [insC,Iz,bl,a_f37,s_f37_l0_b,s_f37_l1_b,s_f37_l2_b,s_f37_l3_b,s_f37_l4_b,s_f37_l5_b,aa,reduceIte,reduceCtorEq,Nat.reduceEqDiff,Nat.reduceLT,Nat.reduceLeDiff,Nat.reduceBEq,Nat.reduceAdd,Nat.reduceMul,op_mapUpd,hlt',a1,ld,hbC,hgg,hsD,hav,hlv,Bool.and_self,hgD,hx,u1,hwk,hG2]
  ·unfold seenD
   rw [List.take_add_one,hkx,List.any_append]
   simp [eq_comm,Bool.or_assoc]) 0 C0' (Nat.zero_le _) (by simpa [seenS,seenD,seenB] using hC0)
 obtain ⟨G2,hG2⟩:=trim_app2 (C:=nvH C0 M []) (m:=L) (by rw [nvH_len];exact hL) (frOf 93 [(2,.ref A.length 0 0),(4,Iz i),(5,.ref p5 0 0),(6,.ref (C0.length+1) 0 0),(21,v21),(22,Iz n22),(23,Iz n23),(41,v41),(42,Iz n42),(43,Iz n43),(48,cv),(49,Iz l.length),(50,Iz l.length),(51,bl false)]) G
 rw [← nvH_app,← nvH_app] at hG2
 refine ⟨nvH C0 M G2,?_,M,G2,rfl,by rw [List.take_length] at e4;exact e4⟩
 rw [cast0] at e2
 refine e2.trans ?_
 subst e3
 rw [itW_step]
 simp only [Iz,bl] at hG2
 simp only [Iz,bl,a_f37,s_f37_l0_b,s_f37_l1_b,s_f37_l2_b,s_f37_l3_b,s_f37_l4_b,s_f37_l5_b,aa,reduceIte,reduceCtorEq,Nat.reduceEqDiff,Nat.reduceLT,Nat.reduceLeDiff,Nat.reduceBEq,Nat.reduceAdd,Nat.reduceMul,Int.lt_irrefl,hG2]
theorem nv_l2 (base:Nat) {A C0:Heap} (h1:Ext A C0) (hb:base≤A.length) (hA:A.length < C0.length) {L:Nat} (hL:C0.length+2≤L) {i p5:Nat} {v21:V} {n22 n23:Int} {bv:V} {l:List BlkD} (hv:RdL 2 RdBlk A bv l) (hnc:∀ b∈l,b.code.length < 2 ^ 20) (hn:l.length < 2 ^ 20) {S:ByteArray→Bool}:
 ∀ C,(∃ M G,C=nvH C0 M G∧SetOf eS S M)→∃ C',itW (evC (callW CT) itW base s_f37_l2) [] L (frOf 93 [(2,.ref A.length 0 0),(4,Iz i),(5,.ref p5 0 0),(6,.ref (C0.length+1) 0 0),(21,v21),(22,Iz n22),(23,Iz n23),(41,bv),(42,Iz l.length),(43,Iz 0)]) C=some (.ext 4,frOf 93 [(2,.ref A.length 0 0),(4,Iz i),(5,.ref p5 0 0),(6,.ref (C0.length+1) 0 0),(21,v21),(22,Iz n22),(23,Iz n23),(41,bv),(42,Iz l.length),(43,Iz l.length),(44,bl false)],C')∧∃ M G,C'=nvH C0 M G∧SetOf eS (fun s=>S s || seenB (l) s) M:=by
 intro C0' hC0
 obtain ⟨C,e2,M,G,e3,e4⟩:=it_rel l.length (fun k C=>∃ M G,C=nvH C0 M G∧SetOf eS (fun s=>S s || seenB (l.take k) s) M) (fun k C=>itW (evC (callW CT) itW base s_f37_l2) [] L (frOf 93 [(2,.ref A.length 0 0),(4,Iz i),(5,.ref p5 0 0),(6,.ref (C0.length+1) 0 0),(21,v21),(22,Iz n22),(23,Iz n23),(41,bv),(42,Iz l.length),(43,Iz k)]) C) (by
  intro k C hk ⟨M,G,hC,hS⟩
  have hlt':((k:Int) < (l.length:Int)):=by omega
  have hwk:=w64 (n:=k) (by omega)
  have hkx:=some_getD hk blk0
  obtain ⟨x,hxe⟩:∃ x,l.getD k blk0=x:=⟨_,rfl⟩
  have hk':=hk
  have hxe':=hxe
  rw [hxe] at hkx
  have hmem:=List.mem_of_getElem? hkx
  have hE0:Ext C0 C:=hC ▸ nvH_ext C0 M G
  have hEA:=h1.trans hE0
  have hle:=hE0.le
  have hbC:base≤C.length:=by omega
  have hgg:∀ c,getC (C ++ [Ob.cells 0 c]) C.length 0=some c:=fun c=>getC_new C 0 c
  have hss:∀ c d,(C ++ [c]).set C.length d=C ++ [d]:=fun c d=>set_snoc C c d
  have eC:∀ c,Ext C (C ++ [Ob.cells 0 c]):=fun c=>Ext.app _ _
  obtain ⟨a,r,a1,hr,a2,_⟩:=hv.at2 hkx
  have ld:=a2 C hEA
  obtain ⟨cv,rfl,hcv⟩:=hr
  have hcl:=(rdI_ext hcv (hEA.trans (eC [Sb x.label,cv]))).len
  have hco:=hcv.one
  have hl2:(C ++ [Ob.cells 0 [Sb x.label,cv]]).length=C.length+1:=by simp
  have hCl:C0.length+2≤C.length:=by rw [hC,nvH_app,List.length_append,nvH_len];omega
  obtain ⟨C2,z2,M2,G2,z3,z4⟩:=nv_l1 (CT:=CT) (v21:=v21) (v41:=bv) (i:=i) (p5:=p5) (n22:=n22) (n23:=n23) (n42:=l.length) (n43:=k) base h1 hb hA (L:=C.length+1) (by omega) hcv (hnc x hmem) (S:=fun s=>S s || seenB (l.take k) s) (C ++ [Ob.cells 0 [Sb x.label,cv]]) ⟨M,G ++ [Ob.cells 0 [Sb x.label,cv]],by rw [hC,nvH_more],hS⟩
  subst z3
  obtain ⟨G3,hG3⟩:=trim_app2 (C:=nvH C0 M2 []) (m:=L) (by rw [nvH_len];exact hL) (frOf 93 [(2,.ref A.length 0 0),(4,Iz i),(5,.ref p5 0 0),(6,.ref (C0.length+1) 0 0),(21,v21),(22,Iz n22),(23,Iz n23),(41,bv),(42,Iz l.length),(43,Iz (k+1:Nat))]) G2
  rw [← nvH_app,← nvH_app] at hG3
  refine ⟨nvH C0 M2 G3,?_,M2,G3,rfl,z4.congr fun s=>?_⟩
  ·rw [itW_step]
   simp only [Iz,bl] at z2 hG3
   simp only [Iz,bl,a_f37,s_f37_l0_b,s_f37_l1_b,s_f37_l2_b,s_f37_l3_b,s_f37_l4_b,s_f37_l5_b,aa,reduceIte,reduceCtorEq,Nat.reduceEqDiff,Nat.reduceLT,Nat.reduceLeDiff,Nat.reduceBEq,Nat.reduceAdd,Nat.reduceMul,hlt',a1,ld,hbC,hgg,hss,hco,Bool.and_self,hcl,hl2,z2,hwk,hG3]
  ·unfold seenB
   rw [List.take_add_one,hkx,List.any_append]
   simp [Bool.or_assoc]) 0 C0' (Nat.zero_le _) (by simpa [seenS,seenD,seenB] using hC0)
 obtain ⟨G2,hG2⟩:=trim_app2 (C:=nvH C0 M []) (m:=L) (by rw [nvH_len];exact hL) (frOf 93 [(2,.ref A.length 0 0),(4,Iz i),(5,.ref p5 0 0),(6,.ref (C0.length+1) 0 0),(21,v21),(22,Iz n22),(23,Iz n23),(41,bv),(42,Iz l.length),(43,Iz l.length),(44,bl false)]) G
 rw [← nvH_app,← nvH_app] at hG2
 refine ⟨nvH C0 M G2,?_,M,G2,rfl,by rw [List.take_length] at e4;exact e4⟩
 rw [cast0] at e2
 refine e2.trans ?_
 subst e3
 rw [itW_step]
 simp only [Iz,bl] at hG2
 simp only [Iz,bl,a_f37,s_f37_l0_b,s_f37_l1_b,s_f37_l2_b,s_f37_l3_b,s_f37_l4_b,s_f37_l5_b,aa,reduceIte,reduceCtorEq,Nat.reduceEqDiff,Nat.reduceLT,Nat.reduceLeDiff,Nat.reduceBEq,Nat.reduceAdd,Nat.reduceMul,Int.lt_irrefl,hG2]
end
end Go.Proofs.YtamlbkalopefgaaR
