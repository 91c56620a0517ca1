/- Texts of the proof: ShS5, ShoK1, ShoK2, ShoK3, ShoK4, ShoK5. -/
import Derived.Test.YtngfpadeebpoeaaGreatDoorP0
import Derived.Test.YtngfpadeebpoeaaGreatDoorP1
import Derived.Test.YtngfpadeebpoeaaGreatDoorP2
import Derived.Test.YtngfpadeebpoeaaGreatDoorP3
import Derived.Test.YtngfpadeebpoeaaGreatDoorP4
import Derived.Test.YtngfpadeebpoeaaGreatDoorP5
set_option linter.all false
set_option maxRecDepth 100000
namespace Go.Proofs.YtngfpadeebpoeaaGreatDoor
open Go.AM
abbrev k_f5:Nat:=5
def K5_0:List Nat:=List.range' 0 191
theorem s_f5_r0_kT:killV K5_0 (startV 191 [] 0)=[]:=by kernel_rfl
def R5_0:LO:=[⟨some 0,.move (.c (.s (.bool false))),none⟩]
def T5_0:=hT R5_0 K5_0 [] 1 [] [] [.cc (.s (.bool false))]
def R5_1t13:LO:=[oM 1 42]
def R5_1t12:LO:=⟨some 42,.buildSl 8 17 [.s (.int .u8 0),.s (.string ⟨#[]⟩),.s (.string ⟨#[]⟩),.s (.string ⟨#[]⟩),.s (.int .i64 0),.s (.string ⟨#[]⟩),.s (.slice none 0 0),.s (.slice none 0 0),.s (.int .u8 0),.s (.string ⟨#[]⟩),.s (.string ⟨#[]⟩),.s (.string ⟨#[]⟩),.s (.int .i64 0),.s (.string ⟨#[]⟩),.s (.slice none 0 0),.s (.slice none 0 0),.s (.int .u8 0),.s (.string ⟨#[]⟩),.s (.string ⟨#[]⟩),.s (.string ⟨#[]⟩),.s (.int .i64 0),.s (.string ⟨#[]⟩),.s (.slice none 0 0),.s (.slice none 0 0),.s (.int .u8 0),.s (.string ⟨#[]⟩),.s (.string ⟨#[]⟩),.s (.string ⟨#[]⟩),.s (.int .i64 0),.s (.string ⟨#[]⟩),.s (.slice none 0 0),.s (.slice none 0 0),.s (.int .u8 0),.s (.string ⟨#[]⟩),.s (.string ⟨#[]⟩),.s (.string ⟨#[]⟩),.s (.int .i64 0),.s (.string ⟨#[]⟩),.s (.slice none 0 0),.s (.slice none 0 0),.s (.int .u8 0),.s (.string ⟨#[]⟩),.s (.string ⟨#[]⟩),.s (.string ⟨#[]⟩),.s (.int .i64 0),.s (.string ⟨#[]⟩),.s (.slice none 0 0),.s (.slice none 0 0),.s (.int .u8 0),.s (.string ⟨#[]⟩),.s (.string ⟨#[]⟩),.s (.string ⟨#[]⟩),.s (.int .i64 0),.s (.string ⟨#[]⟩),.s (.slice none 0 0),.s (.slice none 0 0),.s (.int .u8 0),.s (.string ⟨#[]⟩),.s (.string ⟨#[]⟩),.s (.string ⟨#[]⟩),.s (.int .i64 0),.s (.string ⟨#[]⟩),.s (.slice none 0 0),.s (.slice none 0 0),.s (.int .u8 0),.s (.string ⟨#[]⟩),.s (.string ⟨#[]⟩),.s (.string ⟨#[]⟩),.s (.int .i64 0),.s (.string ⟨#[]⟩),.s (.slice none 0 0),.s (.slice none 0 0),.s (.int .u8 0),.s (.string ⟨#[]⟩),.s (.string ⟨#[]⟩),.s (.string ⟨#[]⟩),.s (.int .i64 0),.s (.string ⟨#[]⟩),.s (.slice none 0 0),.s (.slice none 0 0),.s (.int .u8 0),.s (.string ⟨#[]⟩),.s (.string ⟨#[]⟩),.s (.string ⟨#[]⟩),.s (.int .i64 0),.s (.string ⟨#[]⟩),.s (.slice none 0 0),.s (.slice none 0 0),.s (.int .u8 0),.s (.string ⟨#[]⟩),.s (.string ⟨#[]⟩),.s (.string ⟨#[]⟩),.s (.int .i64 0),.s (.string ⟨#[]⟩),.s (.slice none 0 0),.s (.slice none 0 0),.s (.int .u8 0),.s (.string ⟨#[]⟩),.s (.string ⟨#[]⟩),.s (.string ⟨#[]⟩),.s (.int .i64 0),.s (.string ⟨#[]⟩),.s (.slice none 0 0),.s (.slice none 0 0),.s (.int .u8 0),.s (.string ⟨#[]⟩),.s (.string ⟨#[]⟩),.s (.string ⟨#[]⟩),.s (.int .i64 0),.s (.string ⟨#[]⟩),.s (.slice none 0 0),.s (.slice none 0 0),.s (.int .u8 0),.s (.string ⟨#[]⟩),.s (.string ⟨#[]⟩),.s (.string ⟨#[]⟩),.s (.int .i64 0),.s (.string ⟨#[]⟩),.s (.slice none 0 0),.s (.slice none 0 0),.s (.int .u8 0),.s (.string ⟨#[]⟩),.s (.string ⟨#[]⟩),.s (.string ⟨#[]⟩),.s (.int .i64 0),.s (.string ⟨#[]⟩),.s (.slice none 0 0),.s (.slice none 0 0),.s (.int .u8 0),.s (.string ⟨#[]⟩),.s (.string ⟨#[]⟩),.s (.string ⟨#[]⟩),.s (.int .i64 0),.s (.string ⟨#[]⟩),.s (.slice none 0 0),.s (.slice none 0 0)] [(0,.t 19),(1,.t 20),(2,.t 21),(3,.t 22),(4,.t 23),(5,.t 26),(6,.t 27),(7,.t 28),(8,.t 29),(9,.t 31),(10,.t 32),(11,.t 34),(12,.t 35),(13,.t 37),(14,.t 39),(15,.t 40),(16,.t 41)],none⟩ :: R5_1t13
def R5_1p11:LO:=[⟨some 39,.build [.s (.int .u8 0),.s (.string ⟨#[]⟩),.s (.string ⟨#[]⟩),.s (.string ⟨#[]⟩),.s (.int .i64 0),.s (.string ⟨#[]⟩),.s (.slice none 0 0),.s (.slice none 0 0)] [(0,1),(1,1),(2,1),(3,1),(4,1),(5,1),(6,1),(7,1)] [(0,.c (.s (.int .u8 13))),(7,.t 38)],none⟩,⟨some 40,.build [.s (.int .u8 0),.s (.string ⟨#[]⟩),.s (.string ⟨#[]⟩),.s (.string ⟨#[]⟩),.s (.int .i64 0),.s (.string ⟨#[]⟩),.s (.slice none 0 0),.s (.slice none 0 0)] [(0,1),(1,1),(2,1),(3,1),(4,1),(5,1),(6,1),(7,1)] [(0,.c (.s (.int .u8 14))),(2,.c (.s (.string ⟨#[120]⟩)))],none⟩,⟨some 41,.build [.s (.int .u8 0),.s (.string ⟨#[]⟩),.s (.string ⟨#[]⟩),.s (.string ⟨#[]⟩),.s (.int .i64 0),.s (.string ⟨#[]⟩),.s (.slice none 0 0),.s (.slice none 0 0)] [(0,1),(1,1),(2,1),(3,1),(4,1),(5,1),(6,1),(7,1)] [(0,.c (.s (.int .u8 14)))],none⟩]
def R5_1t11:LO:=R5_1p11 ++ R5_1t12
def R5_1t10:LO:=⟨some 38,.buildSl 1 1 [.s (.string ⟨#[]⟩)] [(0,.c (.s (.string ⟨#[97]⟩)))],none⟩ :: R5_1t11
def R5_1p9:LO:=[⟨some 37,.build [.s (.int .u8 0),.s (.string ⟨#[]⟩),.s (.string ⟨#[]⟩),.s (.string ⟨#[]⟩),.s (.int .i64 0),.s (.string ⟨#[]⟩),.s (.slice none 0 0),.s (.slice none 0 0)] [(0,1),(1,1),(2,1),(3,1),(4,1),(5,1),(6,1),(7,1)] [(0,.c (.s (.int .u8 12))),(7,.t 36)],none⟩]
def R5_1t9:LO:=R5_1p9 ++ R5_1t10
def R5_1t8:LO:=⟨some 36,.buildSl 1 2 [.s (.string ⟨#[]⟩),.s (.string ⟨#[]⟩)] [(0,.c (.s (.string ⟨#[97]⟩))),(1,.c (.s (.string ⟨#[98]⟩)))],none⟩ :: R5_1t9
def R5_1p7:LO:=[⟨some 34,.build [.s (.int .u8 0),.s (.string ⟨#[]⟩),.s (.string ⟨#[]⟩),.s (.string ⟨#[]⟩),.s (.int .i64 0),.s (.string ⟨#[]⟩),.s (.slice none 0 0),.s (.slice none 0 0)] [(0,1),(1,1),(2,1),(3,1),(4,1),(5,1),(6,1),(7,1)] [(0,.c (.s (.int .u8 11))),(1,.c (.s (.string ⟨#[105]⟩))),(2,.c (.s (.string ⟨#[102]⟩))),(6,.t 33)],none⟩,⟨some 35,.build [.s (.int .u8 0),.s (.string ⟨#[]⟩),.s (.string ⟨#[]⟩),.s (.string ⟨#[]⟩),.s (.int .i64 0),.s (.string ⟨#[]⟩),.s (.slice none 0 0),.s (.slice none 0 0)] [(0,1),(1,1),(2,1),(3,1),(4,1),(5,1),(6,1),(7,1)] [(0,.c (.s (.int .u8 11))),(2,.c (.s (.string ⟨#[102]⟩)))],none⟩]
def R5_1t7:LO:=R5_1p7 ++ R5_1t8
def R5_1t6:LO:=⟨some 33,.buildSl 1 1 [.s (.string ⟨#[]⟩)] [(0,.c (.s (.string ⟨#[110,117,108,108]⟩)))],none⟩ :: R5_1t7
def R5_1p5:LO:=[⟨some 31,.build [.s (.int .u8 0),.s (.string ⟨#[]⟩),.s (.string ⟨#[]⟩),.s (.string ⟨#[]⟩),.s (.int .i64 0),.s (.string ⟨#[]⟩),.s (.slice none 0 0),.s (.slice none 0 0)] [(0,1),(1,1),(2,1),(3,1),(4,1),(5,1),(6,1),(7,1)] [(0,.c (.s (.int .u8 10))),(1,.c (.s (.string ⟨#[114]⟩))),(5,.c (.s (.string ⟨#[103]⟩))),(6,.t 30)],none⟩,⟨some 32,.build [.s (.int .u8 0),.s (.string ⟨#[]⟩),.s (.string ⟨#[]⟩),.s (.string ⟨#[]⟩),.s (.int .i64 0),.s (.string ⟨#[]⟩),.s (.slice none 0 0),.s (.slice none 0 0)] [(0,1),(1,1),(2,1),(3,1),(4,1),(5,1),(6,1),(7,1)] [(0,.c (.s (.int .u8 10))),(5,.c (.s (.string ⟨#[103]⟩)))],none⟩]
def R5_1t5:LO:=R5_1p5 ++ R5_1t6
def R5_1t4:LO:=⟨some 30,.buildSl 1 2 [.s (.string ⟨#[]⟩),.s (.string ⟨#[]⟩)] [(0,.c (.s (.string ⟨#[120]⟩))),(1,.c (.s (.string ⟨#[121]⟩)))],none⟩ :: R5_1t5
def R5_1p3:LO:=[⟨some 26,.build [.s (.int .u8 0),.s (.string ⟨#[]⟩),.s (.string ⟨#[]⟩),.s (.string ⟨#[]⟩),.s (.int .i64 0),.s (.string ⟨#[]⟩),.s (.slice none 0 0),.s (.slice none 0 0)] [(0,1),(1,1),(2,1),(3,1),(4,1),(5,1),(6,1),(7,1)] [(0,.c (.s (.int .u8 6))),(1,.c (.s (.string ⟨#[104]⟩))),(6,.t 24),(7,.t 25)],none⟩,⟨some 27,.build [.s (.int .u8 0),.s (.string ⟨#[]⟩),.s (.string ⟨#[]⟩),.s (.string ⟨#[]⟩),.s (.int .i64 0),.s (.string ⟨#[]⟩),.s (.slice none 0 0),.s (.slice none 0 0)] [(0,1),(1,1),(2,1),(3,1),(4,1),(5,1),(6,1),(7,1)] [(0,.c (.s (.int .u8 7))),(1,.c (.s (.string ⟨#[100]⟩))),(2,.c (.s (.string ⟨#[120]⟩))),(4,.c (.s (.int .i64 10)))],none⟩,⟨some 28,.build [.s (.int .u8 0),.s (.string ⟨#[]⟩),.s (.string ⟨#[]⟩),.s (.string ⟨#[]⟩),.s (.int .i64 0),.s (.string ⟨#[]⟩),.s (.slice none 0 0),.s (.slice none 0 0)] [(0,1),(1,1),(2,1),(3,1),(4,1),(5,1),(6,1),(7,1)] [(0,.c (.s (.int .u8 8))),(1,.c (.s (.string ⟨#[108]⟩))),(2,.c (.s (.string ⟨#[100]⟩)))],none⟩,⟨some 29,.build [.s (.int .u8 0),.s (.string ⟨#[]⟩),.s (.string ⟨#[]⟩),.s (.string ⟨#[]⟩),.s (.int .i64 0),.s (.string ⟨#[]⟩),.s (.slice none 0 0),.s (.slice none 0 0)] [(0,1),(1,1),(2,1),(3,1),(4,1),(5,1),(6,1),(7,1)] [(0,.c (.s (.int .u8 9))),(2,.c (.s (.string ⟨#[120]⟩))),(3,.c (.s (.string ⟨#[110,117,108,108]⟩)))],none⟩]
def R5_1t3:LO:=R5_1p3 ++ R5_1t4
def R5_1t2:LO:=⟨some 25,.buildSl 1 2 [.s (.string ⟨#[]⟩),.s (.string ⟨#[]⟩)] [(0,.c (.s (.string ⟨#[97]⟩))),(1,.c (.s (.string ⟨#[98]⟩)))],none⟩ :: R5_1t3
def R5_1t1:LO:=⟨some 24,.buildSl 1 2 [.s (.string ⟨#[]⟩),.s (.string ⟨#[]⟩)] [(0,.c (.s (.string ⟨#[120]⟩))),(1,.c (.s (.string ⟨#[110,117,108,108]⟩)))],none⟩ :: R5_1t2
def R5_1p0:LO:=[⟨some 19,.build [.s (.int .u8 0),.s (.string ⟨#[]⟩),.s (.string ⟨#[]⟩),.s (.string ⟨#[]⟩),.s (.int .i64 0),.s (.string ⟨#[]⟩),.s (.slice none 0 0),.s (.slice none 0 0)] [(0,1),(1,1),(2,1),(3,1),(4,1),(5,1),(6,1),(7,1)] [(0,.c (.s (.int .u8 1))),(1,.c (.s (.string ⟨#[120]⟩))),(4,.c (.s (.int .i64 2)))],none⟩,⟨some 20,.build [.s (.int .u8 0),.s (.string ⟨#[]⟩),.s (.string ⟨#[]⟩),.s (.string ⟨#[]⟩),.s (.int .i64 0),.s (.string ⟨#[]⟩),.s (.slice none 0 0),.s (.slice none 0 0)] [(0,1),(1,1),(2,1),(3,1),(4,1),(5,1),(6,1),(7,1)] [(0,.c (.s (.int .u8 2))),(1,.c (.s (.string ⟨#[109]⟩))),(4,.c (.s (.int .i64 64)))],none⟩,⟨some 21,.build [.s (.int .u8 0),.s (.string ⟨#[]⟩),.s (.string ⟨#[]⟩),.s (.string ⟨#[]⟩),.s (.int .i64 0),.s (.string ⟨#[]⟩),.s (.slice none 0 0),.s (.slice none 0 0)] [(0,1),(1,1),(2,1),(3,1),(4,1),(5,1),(6,1),(7,1)] [(0,.c (.s (.int .u8 3))),(1,.c (.s (.string ⟨#[122]⟩)))],none⟩,⟨some 22,.build [.s (.int .u8 0),.s (.string ⟨#[]⟩),.s (.string ⟨#[]⟩),.s (.string ⟨#[]⟩),.s (.int .i64 0),.s (.string ⟨#[]⟩),.s (.slice none 0 0),.s (.slice none 0 0)] [(0,1),(1,1),(2,1),(3,1),(4,1),(5,1),(6,1),(7,1)] [(0,.c (.s (.int .u8 4))),(1,.c (.s (.string ⟨#[102]⟩))),(5,.c (.s (.string ⟨#[109,97,105,110]⟩)))],none⟩,⟨some 23,.build [.s (.int .u8 0),.s (.string ⟨#[]⟩),.s (.string ⟨#[]⟩),.s (.string ⟨#[]⟩),.s (.int .i64 0),.s (.string ⟨#[]⟩),.s (.slice none 0 0),.s (.slice none 0 0)] [(0,1),(1,1),(2,1),(3,1),(4,1),(5,1),(6,1),(7,1)] [(0,.c (.s (.int .u8 5))),(1,.c (.s (.string ⟨#[99]⟩))),(2,.c (.s (.string ⟨#[110,117,108,108]⟩)))],none⟩]
def R5_1:LO:=R5_1p0 ++ R5_1t1
def T5_1p0:=hT R5_1p0 [] [19,20,21,22,23] 24 [] [(19,.op (.build [.s (.int .u8 0),.s (.string ⟨#[]⟩),.s (.string ⟨#[]⟩),.s (.string ⟨#[]⟩),.s (.int .i64 0),.s (.string ⟨#[]⟩),.s (.slice none 0 0),.s (.slice none 0 0)] [(0,1),(1,1),(2,1),(3,1),(4,1),(5,1),(6,1),(7,1)] [(0,.c (.s (.int .u8 1))),(1,.c (.s (.string ⟨#[120]⟩))),(4,.c (.s (.int .i64 2)))]) [.c (.s (.int .u8 1)),.c (.s (.string ⟨#[120]⟩)),.c (.s (.int .i64 2))]),(20,.op (.build [.s (.int .u8 0),.s (.string ⟨#[]⟩),.s (.string ⟨#[]⟩),.s (.string ⟨#[]⟩),.s (.int .i64 0),.s (.string ⟨#[]⟩),.s (.slice none 0 0),.s (.slice none 0 0)] [(0,1),(1,1),(2,1),(3,1),(4,1),(5,1),(6,1),(7,1)] [(0,.c (.s (.int .u8 2))),(1,.c (.s (.string ⟨#[109]⟩))),(4,.c (.s (.int .i64 64)))]) [.c (.s (.int .u8 2)),.c (.s (.string ⟨#[109]⟩)),.c (.s (.int .i64 64))]),(21,.op (.build [.s (.int .u8 0),.s (.string ⟨#[]⟩),.s (.string ⟨#[]⟩),.s (.string ⟨#[]⟩),.s (.int .i64 0),.s (.string ⟨#[]⟩),.s (.slice none 0 0),.s (.slice none 0 0)] [(0,1),(1,1),(2,1),(3,1),(4,1),(5,1),(6,1),(7,1)] [(0,.c (.s (.int .u8 3))),(1,.c (.s (.string ⟨#[122]⟩)))]) [.c (.s (.int .u8 3)),.c (.s (.string ⟨#[122]⟩))]),(22,.op (.build [.s (.int .u8 0),.s (.string ⟨#[]⟩),.s (.string ⟨#[]⟩),.s (.string ⟨#[]⟩),.s (.int .i64 0),.s (.string ⟨#[]⟩),.s (.slice none 0 0),.s (.slice none 0 0)] [(0,1),(1,1),(2,1),(3,1),(4,1),(5,1),(6,1),(7,1)] [(0,.c (.s (.int .u8 4))),(1,.c (.s (.string ⟨#[102]⟩))),(5,.c (.s (.string ⟨#[109,97,105,110]⟩)))]) [.c (.s (.int .u8 4)),.c (.s (.string ⟨#[102]⟩)),.c (.s (.string ⟨#[109,97,105,110]⟩))]),(23,.op (.build [.s (.int .u8 0),.s (.string ⟨#[]⟩),.s (.string ⟨#[]⟩),.s (.string ⟨#[]⟩),.s (.int .i64 0),.s (.string ⟨#[]⟩),.s (.slice none 0 0),.s (.slice none 0 0)] [(0,1),(1,1),(2,1),(3,1),(4,1),(5,1),(6,1),(7,1)] [(0,.c (.s (.int .u8 5))),(1,.c (.s (.string ⟨#[99]⟩))),(2,.c (.s (.string ⟨#[110,117,108,108]⟩)))]) [.c (.s (.int .u8 5)),.c (.s (.string ⟨#[99]⟩)),.c (.s (.string ⟨#[110,117,108,108]⟩))])] [sb [],.sub 1 [] [],.sub 2 [] [],.sub 3 [] [],.sub 4 [] []]
def X5_1:=hS R5_1 R5_1p0 R5_1t1 [] [19,20,21,22,23] [19,20,21,22,23,24,25,26,27,28,29,30,31,32,33,34,35,36,37,38,39,40,41,42]
def X5_1t1:=hP R5_1t1 R5_1t2 [] [19,20,21,22,23,24,25,26,27,28,29,30,31,32,33,34,35,36,37,38,39,40,41,42] ⟨some 24,.buildSl 1 2 [.s (.string ⟨#[]⟩),.s (.string ⟨#[]⟩)] [(0,.c (.s (.string ⟨#[120]⟩))),(1,.c (.s (.string ⟨#[110,117,108,108]⟩)))],none⟩
def X5_1t2:=hP R5_1t2 R5_1t3 [] [19,20,21,22,23,24,25,26,27,28,29,30,31,32,33,34,35,36,37,38,39,40,41,42] ⟨some 25,.buildSl 1 2 [.s (.string ⟨#[]⟩),.s (.string ⟨#[]⟩)] [(0,.c (.s (.string ⟨#[97]⟩))),(1,.c (.s (.string ⟨#[98]⟩)))],none⟩
def T5_1p3:=hT R5_1p3 [24,25] [26,27,28,29] 30 [] [(26,.op (.build [.s (.int .u8 0),.s (.string ⟨#[]⟩),.s (.string ⟨#[]⟩),.s (.string ⟨#[]⟩),.s (.int .i64 0),.s (.string ⟨#[]⟩),.s (.slice none 0 0),.s (.slice none 0 0)] [(0,1),(1,1),(2,1),(3,1),(4,1),(5,1),(6,1),(7,1)] [(0,.c (.s (.int .u8 6))),(1,.c (.s (.string ⟨#[104]⟩))),(6,.t 2),(7,.t 3)]) [.c (.s (.int .u8 6)),.c (.s (.string ⟨#[104]⟩)),.t 24,.t 25]),(27,.op (.build [.s (.int .u8 0),.s (.string ⟨#[]⟩),.s (.string ⟨#[]⟩),.s (.string ⟨#[]⟩),.s (.int .i64 0),.s (.string ⟨#[]⟩),.s (.slice none 0 0),.s (.slice none 0 0)] [(0,1),(1,1),(2,1),(3,1),(4,1),(5,1),(6,1),(7,1)] [(0,.c (.s (.int .u8 7))),(1,.c (.s (.string ⟨#[100]⟩))),(2,.c (.s (.string ⟨#[120]⟩))),(4,.c (.s (.int .i64 10)))]) [.c (.s (.int .u8 7)),.c (.s (.string ⟨#[100]⟩)),.c (.s (.string ⟨#[120]⟩)),.c (.s (.int .i64 10))]),(28,.op (.build [.s (.int .u8 0),.s (.string ⟨#[]⟩),.s (.string ⟨#[]⟩),.s (.string ⟨#[]⟩),.s (.int .i64 0),.s (.string ⟨#[]⟩),.s (.slice none 0 0),.s (.slice none 0 0)] [(0,1),(1,1),(2,1),(3,1),(4,1),(5,1),(6,1),(7,1)] [(0,.c (.s (.int .u8 8))),(1,.c (.s (.string ⟨#[108]⟩))),(2,.c (.s (.string ⟨#[100]⟩)))]) [.c (.s (.int .u8 8)),.c (.s (.string ⟨#[108]⟩)),.c (.s (.string ⟨#[100]⟩))]),(29,.op (.build [.s (.int .u8 0),.s (.string ⟨#[]⟩),.s (.string ⟨#[]⟩),.s (.string ⟨#[]⟩),.s (.int .i64 0),.s (.string ⟨#[]⟩),.s (.slice none 0 0),.s (.slice none 0 0)] [(0,1),(1,1),(2,1),(3,1),(4,1),(5,1),(6,1),(7,1)] [(0,.c (.s (.int .u8 9))),(2,.c (.s (.string ⟨#[120]⟩))),(3,.c (.s (.string ⟨#[110,117,108,108]⟩)))]) [.c (.s (.int .u8 9)),.c (.s (.string ⟨#[120]⟩)),.c (.s (.string ⟨#[110,117,108,108]⟩))])] [sb [],.sub 1 [] [],.sub 2 [] [],.sub 3 [] []]
def X5_1t3:=hS R5_1t3 R5_1p3 R5_1t4 [24,25] [26,27,28,29] [19,20,21,22,23,24,25,26,27,28,29,30,31,32,33,34,35,36,37,38,39,40,41,42]
def X5_1t4:=hP R5_1t4 R5_1t5 [] [19,20,21,22,23,24,25,26,27,28,29,30,31,32,33,34,35,36,37,38,39,40,41,42] ⟨some 30,.buildSl 1 2 [.s (.string ⟨#[]⟩),.s (.string ⟨#[]⟩)] [(0,.c (.s (.string ⟨#[120]⟩))),(1,.c (.s (.string ⟨#[121]⟩)))],none⟩
def T5_1p5:=hT R5_1p5 [30] [31,32] 33 [] [(31,.op (.build [.s (.int .u8 0),.s (.string ⟨#[]⟩),.s (.string ⟨#[]⟩),.s (.string ⟨#[]⟩),.s (.int .i64 0),.s (.string ⟨#[]⟩),.s (.slice none 0 0),.s (.slice none 0 0)] [(0,1),(1,1),(2,1),(3,1),(4,1),(5,1),(6,1),(7,1)] [(0,.c (.s (.int .u8 10))),(1,.c (.s (.string ⟨#[114]⟩))),(5,.c (.s (.string ⟨#[103]⟩))),(6,.t 3)]) [.c (.s (.int .u8 10)),.c (.s (.string ⟨#[114]⟩)),.c (.s (.string ⟨#[103]⟩)),.t 30]),(32,.op (.build [.s (.int .u8 0),.s (.string ⟨#[]⟩),.s (.string ⟨#[]⟩),.s (.string ⟨#[]⟩),.s (.int .i64 0),.s (.string ⟨#[]⟩),.s (.slice none 0 0),.s (.slice none 0 0)] [(0,1),(1,1),(2,1),(3,1),(4,1),(5,1),(6,1),(7,1)] [(0,.c (.s (.int .u8 10))),(5,.c (.s (.string ⟨#[103]⟩)))]) [.c (.s (.int .u8 10)),.c (.s (.string ⟨#[103]⟩))])] [sb [],.sub 1 [] []]
def X5_1t5:=hS R5_1t5 R5_1p5 R5_1t6 [30] [31,32] [19,20,21,22,23,24,25,26,27,28,29,30,31,32,33,34,35,36,37,38,39,40,41,42]
def X5_1t6:=hP R5_1t6 R5_1t7 [] [19,20,21,22,23,24,25,26,27,28,29,30,31,32,33,34,35,36,37,38,39,40,41,42] ⟨some 33,.buildSl 1 1 [.s (.string ⟨#[]⟩)] [(0,.c (.s (.string ⟨#[110,117,108,108]⟩)))],none⟩
def T5_1p7:=hT R5_1p7 [33] [34,35] 36 [] [(34,.op (.build [.s (.int .u8 0),.s (.string ⟨#[]⟩),.s (.string ⟨#[]⟩),.s (.string ⟨#[]⟩),.s (.int .i64 0),.s (.string ⟨#[]⟩),.s (.slice none 0 0),.s (.slice none 0 0)] [(0,1),(1,1),(2,1),(3,1),(4,1),(5,1),(6,1),(7,1)] [(0,.c (.s (.int .u8 11))),(1,.c (.s (.string ⟨#[105]⟩))),(2,.c (.s (.string ⟨#[102]⟩))),(6,.t 3)]) [.c (.s (.int .u8 11)),.c (.s (.string ⟨#[105]⟩)),.c (.s (.string ⟨#[102]⟩)),.t 33]),(35,.op (.build [.s (.int .u8 0),.s (.string ⟨#[]⟩),.s (.string ⟨#[]⟩),.s (.string ⟨#[]⟩),.s (.int .i64 0),.s (.string ⟨#[]⟩),.s (.slice none 0 0),.s (.slice none 0 0)] [(0,1),(1,1),(2,1),(3,1),(4,1),(5,1),(6,1),(7,1)] [(0,.c (.s (.int .u8 11))),(2,.c (.s (.string ⟨#[102]⟩)))]) [.c (.s (.int .u8 11)),.c (.s (.string ⟨#[102]⟩))])] [sb [],.sub 1 [] []]
def X5_1t7:=hS R5_1t7 R5_1p7 R5_1t8 [33] [34,35] [19,20,21,22,23,24,25,26,27,28,29,30,31,32,33,34,35,36,37,38,39,40,41,42]
def X5_1t8:=hP R5_1t8 R5_1t9 [] [19,20,21,22,23,24,25,26,27,28,29,30,31,32,33,34,35,36,37,38,39,40,41,42] ⟨some 36,.buildSl 1 2 [.s (.string ⟨#[]⟩),.s (.string ⟨#[]⟩)] [(0,.c (.s (.string ⟨#[97]⟩))),(1,.c (.s (.string ⟨#[98]⟩)))],none⟩
def T5_1p9:=hT R5_1p9 [36] [37] 38 [] [(37,.op (.build [.s (.int .u8 0),.s (.string ⟨#[]⟩),.s (.string ⟨#[]⟩),.s (.string ⟨#[]⟩),.s (.int .i64 0),.s (.string ⟨#[]⟩),.s (.slice none 0 0),.s (.slice none 0 0)] [(0,1),(1,1),(2,1),(3,1),(4,1),(5,1),(6,1),(7,1)] [(0,.c (.s (.int .u8 12))),(7,.t 1)]) [.c (.s (.int .u8 12)),.t 36])] [sb []]
def X5_1t9:=hS R5_1t9 R5_1p9 R5_1t10 [36] [37] [19,20,21,22,23,24,25,26,27,28,29,30,31,32,33,34,35,36,37,38,39,40,41,42]
def X5_1t10:=hP R5_1t10 R5_1t11 [] [19,20,21,22,23,24,25,26,27,28,29,30,31,32,33,34,35,36,37,38,39,40,41,42] ⟨some 38,.buildSl 1 1 [.s (.string ⟨#[]⟩)] [(0,.c (.s (.string ⟨#[97]⟩)))],none⟩
def T5_1p11:=hT R5_1p11 [38] [39,40,41] 42 [] [(39,.op (.build [.s (.int .u8 0),.s (.string ⟨#[]⟩),.s (.string ⟨#[]⟩),.s (.string ⟨#[]⟩),.s (.int .i64 0),.s (.string ⟨#[]⟩),.s (.slice none 0 0),.s (.slice none 0 0)] [(0,1),(1,1),(2,1),(3,1),(4,1),(5,1),(6,1),(7,1)] [(0,.c (.s (.int .u8 13))),(7,.t 1)]) [.c (.s (.int .u8 13)),.t 38]),(40,.op (.build [.s (.int .u8 0),.s (.string ⟨#[]⟩),.s (.string ⟨#[]⟩),.s (.string ⟨#[]⟩),.s (.int .i64 0),.s (.string ⟨#[]⟩),.s (.slice none 0 0),.s (.slice none 0 0)] [(0,1),(1,1),(2,1),(3,1),(4,1),(5,1),(6,1),(7,1)] [(0,.c (.s (.int .u8 14))),(2,.c (.s (.string ⟨#[120]⟩)))]) [.c (.s (.int .u8 14)),.c (.s (.string ⟨#[120]⟩))]),(41,.op (.build [.s (.int .u8 0),.s (.string ⟨#[]⟩),.s (.string ⟨#[]⟩),.s (.string ⟨#[]⟩),.s (.int .i64 0),.s (.string ⟨#[]⟩),.s (.slice none 0 0),.s (.slice none 0 0)] [(0,1),(1,1),(2,1),(3,1),(4,1),(5,1),(6,1),(7,1)] [(0,.c (.s (.int .u8 14)))]) [.c (.s (.int .u8 14))])] [sb [],.sub 1 [] [],.sub 2 [] []]
def X5_1t11:=hS R5_1t11 R5_1p11 R5_1t12 [38] [39,40,41] [19,20,21,22,23,24,25,26,27,28,29,30,31,32,33,34,35,36,37,38,39,40,41,42]
def X5_1t12:=hP R5_1t12 R5_1t13 [19,20,21,22,23,26,27,28,29,31,32,34,35,37,39,40,41] [19,20,21,22,23,24,25,26,27,28,29,30,31,32,33,34,35,36,37,38,39,40,41,42] ⟨some 42,.buildSl 8 17 [.s (.int .u8 0),.s (.string ⟨#[]⟩),.s (.string ⟨#[]⟩),.s (.string ⟨#[]⟩),.s (.int .i64 0),.s (.string ⟨#[]⟩),.s (.slice none 0 0),.s (.slice none 0 0),.s (.int .u8 0),.s (.string ⟨#[]⟩),.s (.string ⟨#[]⟩),.s (.string ⟨#[]⟩),.s (.int .i64 0),.s (.string ⟨#[]⟩),.s (.slice none 0 0),.s (.slice none 0 0),.s (.int .u8 0),.s (.string ⟨#[]⟩),.s (.string ⟨#[]⟩),.s (.string ⟨#[]⟩),.s (.int .i64 0),.s (.string ⟨#[]⟩),.s (.slice none 0 0),.s (.slice none 0 0),.s (.int .u8 0),.s (.string ⟨#[]⟩),.s (.string ⟨#[]⟩),.s (.string ⟨#[]⟩),.s (.int .i64 0),.s (.string ⟨#[]⟩),.s (.slice none 0 0),.s (.slice none 0 0),.s (.int .u8 0),.s (.string ⟨#[]⟩),.s (.string ⟨#[]⟩),.s (.string ⟨#[]⟩),.s (.int .i64 0),.s (.string ⟨#[]⟩),.s (.slice none 0 0),.s (.slice none 0 0),.s (.int .u8 0),.s (.string ⟨#[]⟩),.s (.string ⟨#[]⟩),.s (.string ⟨#[]⟩),.s (.int .i64 0),.s (.string ⟨#[]⟩),.s (.slice none 0 0),.s (.slice none 0 0),.s (.int .u8 0),.s (.string ⟨#[]⟩),.s (.string ⟨#[]⟩),.s (.string ⟨#[]⟩),.s (.int .i64 0),.s (.string ⟨#[]⟩),.s (.slice none 0 0),.s (.slice none 0 0),.s (.int .u8 0),.s (.string ⟨#[]⟩),.s (.string ⟨#[]⟩),.s (.string ⟨#[]⟩),.s (.int .i64 0),.s (.string ⟨#[]⟩),.s (.slice none 0 0),.s (.slice none 0 0),.s (.int .u8 0),.s (.string ⟨#[]⟩),.s (.string ⟨#[]⟩),.s (.string ⟨#[]⟩),.s (.int .i64 0),.s (.string ⟨#[]⟩),.s (.slice none 0 0),.s (.slice none 0 0),.s (.int .u8 0),.s (.string ⟨#[]⟩),.s (.string ⟨#[]⟩),.s (.string ⟨#[]⟩),.s (.int .i64 0),.s (.string ⟨#[]⟩),.s (.slice none 0 0),.s (.slice none 0 0),.s (.int .u8 0),.s (.string ⟨#[]⟩),.s (.string ⟨#[]⟩),.s (.string ⟨#[]⟩),.s (.int .i64 0),.s (.string ⟨#[]⟩),.s (.slice none 0 0),.s (.slice none 0 0),.s (.int .u8 0),.s (.string ⟨#[]⟩),.s (.string ⟨#[]⟩),.s (.string ⟨#[]⟩),.s (.int .i64 0),.s (.string ⟨#[]⟩),.s (.slice none 0 0),.s (.slice none 0 0),.s (.int .u8 0),.s (.string ⟨#[]⟩),.s (.string ⟨#[]⟩),.s (.string ⟨#[]⟩),.s (.int .i64 0),.s (.string ⟨#[]⟩),.s (.slice none 0 0),.s (.slice none 0 0),.s (.int .u8 0),.s (.string ⟨#[]⟩),.s (.string ⟨#[]⟩),.s (.string ⟨#[]⟩),.s (.int .i64 0),.s (.string ⟨#[]⟩),.s (.slice none 0 0),.s (.slice none 0 0),.s (.int .u8 0),.s (.string ⟨#[]⟩),.s (.string ⟨#[]⟩),.s (.string ⟨#[]⟩),.s (.int .i64 0),.s (.string ⟨#[]⟩),.s (.slice none 0 0),.s (.slice none 0 0),.s (.int .u8 0),.s (.string ⟨#[]⟩),.s (.string ⟨#[]⟩),.s (.string ⟨#[]⟩),.s (.int .i64 0),.s (.string ⟨#[]⟩),.s (.slice none 0 0),.s (.slice none 0 0),.s (.int .u8 0),.s (.string ⟨#[]⟩),.s (.string ⟨#[]⟩),.s (.string ⟨#[]⟩),.s (.int .i64 0),.s (.string ⟨#[]⟩),.s (.slice none 0 0),.s (.slice none 0 0)] [(0,.t 19),(1,.t 20),(2,.t 21),(3,.t 22),(4,.t 23),(5,.t 26),(6,.t 27),(7,.t 28),(8,.t 29),(9,.t 31),(10,.t 32),(11,.t 34),(12,.t 35),(13,.t 37),(14,.t 39),(15,.t 40),(16,.t 41)],none⟩
def T5_1t13:=hT R5_1t13 [19,20,21,22,23,24,25,26,27,28,29,30,31,32,33,34,35,36,37,38,39,40,41,42] [1] 2 [] [(1,.t 42)] [.tt 42]
def X5_1t13:=hL R5_1t13 [19,20,21,22,23,24,25,26,27,28,29,30,31,32,33,34,35,36,37,38,39,40,41,42] [1]
def R5_2t8:LO:=[⟨none,.store 1 (.t 2) (.t 51),none⟩]
def R5_2t7:LO:=⟨some 2,.alloc [.s (.slice none 0 0)],none⟩ :: R5_2t8
def R5_2p6:LO:=[⟨some 51,.build [.s (.slice none 0 0)] [(0,1)] [(0,.t 50)],none⟩]
def R5_2t6:LO:=R5_2p6 ++ R5_2t7
def R5_2t5:LO:=⟨some 50,.buildSl 3 2 [.s (.string ⟨#[]⟩),.s (.slice none 0 0),.s (.slice none 0 0),.s (.string ⟨#[]⟩),.s (.slice none 0 0),.s (.slice none 0 0)] [(0,.t 47),(1,.t 49)],none⟩ :: R5_2t6
def R5_2p4:LO:=[⟨some 49,.build [.s (.string ⟨#[]⟩),.s (.slice none 0 0),.s (.slice none 0 0)] [(0,1),(1,1),(2,1)] [(0,.c (.s (.string ⟨#[103]⟩))),(1,.t 48)],none⟩]
def R5_2t4:LO:=R5_2p4 ++ R5_2t5
def R5_2t3:LO:=⟨some 48,.buildSl 1 1 [.s (.string ⟨#[]⟩)] [(0,.c (.s (.string ⟨#[112]⟩)))],none⟩ :: R5_2t4
def R5_2p2:LO:=[⟨some 47,.build [.s (.string ⟨#[]⟩),.s (.slice none 0 0),.s (.slice none 0 0)] [(0,1),(1,1),(2,1)] [(0,.c (.s (.string ⟨#[109,97,105,110]⟩))),(2,.t 46)],none⟩]
def R5_2t2:LO:=R5_2p2 ++ R5_2t3
def R5_2t1:LO:=⟨some 46,.buildSl 2 2 [.s (.string ⟨#[]⟩),.s (.slice none 0 0),.s (.string ⟨#[]⟩),.s (.slice none 0 0)] [(0,.t 44),(1,.t 45)],none⟩ :: R5_2t2
def R5_2p0:LO:=[oM 43 1,⟨some 44,.build [.s (.string ⟨#[]⟩),.s (.slice none 0 0)] [(0,1),(1,1)] [(0,.c (.s (.string ⟨#[97]⟩))),(1,.t 43)],none⟩,⟨some 45,.build [.s (.string ⟨#[]⟩),.s (.slice none 0 0)] [(0,1),(1,1)] [(0,.c (.s (.string ⟨#[98]⟩)))],none⟩]
def R5_2:LO:=R5_2p0 ++ R5_2t1
def T5_2p0:=hT R5_2p0 [1,43] [44,45] 46 [] [(44,.op (.build [.s (.string ⟨#[]⟩),.s (.slice none 0 0)] [(0,1),(1,1)] [(0,.c (.s (.string ⟨#[97]⟩))),(1,.t 1)]) [.c (.s (.string ⟨#[97]⟩)),.t 1]),(45,.op (.build [.s (.string ⟨#[]⟩),.s (.slice none 0 0)] [(0,1),(1,1)] [(0,.c (.s (.string ⟨#[98]⟩)))]) [.c (.s (.string ⟨#[98]⟩))])] [.tt 1,sb [],.sub 1 [] []]
def X5_2:=hS R5_2 R5_2p0 R5_2t1 [1,43] [44,45] [1,43,44,45,46,47,48,49,50,51]
def X5_2t1:=hP R5_2t1 R5_2t2 [44,45] [1,43,44,45,46,47,48,49,50,51] ⟨some 46,.buildSl 2 2 [.s (.string ⟨#[]⟩),.s (.slice none 0 0),.s (.string ⟨#[]⟩),.s (.slice none 0 0)] [(0,.t 44),(1,.t 45)],none⟩
def T5_2p2:=hT R5_2p2 [46] [47] 48 [] [(47,.op (.build [.s (.string ⟨#[]⟩),.s (.slice none 0 0),.s (.slice none 0 0)] [(0,1),(1,1),(2,1)] [(0,.c (.s (.string ⟨#[109,97,105,110]⟩))),(2,.t 1)]) [.c (.s (.string ⟨#[109,97,105,110]⟩)),.t 46])] [sb []]
def X5_2t2:=hS R5_2t2 R5_2p2 R5_2t3 [46] [47] [1,43,44,45,46,47,48,49,50,51]
def X5_2t3:=hP R5_2t3 R5_2t4 [] [1,43,44,45,46,47,48,49,50,51] ⟨some 48,.buildSl 1 1 [.s (.string ⟨#[]⟩)] [(0,.c (.s (.string ⟨#[112]⟩)))],none⟩
def T5_2p4:=hT R5_2p4 [48] [49] 50 [] [(49,.op (.build [.s (.string ⟨#[]⟩),.s (.slice none 0 0),.s (.slice none 0 0)] [(0,1),(1,1),(2,1)] [(0,.c (.s (.string ⟨#[103]⟩))),(1,.t 1)]) [.c (.s (.string ⟨#[103]⟩)),.t 48])] [sb []]
def X5_2t4:=hS R5_2t4 R5_2p4 R5_2t5 [48] [49] [1,43,44,45,46,47,48,49,50,51]
def X5_2t5:=hP R5_2t5 R5_2t6 [47,49] [1,43,44,45,46,47,48,49,50,51] ⟨some 50,.buildSl 3 2 [.s (.string ⟨#[]⟩),.s (.slice none 0 0),.s (.slice none 0 0),.s (.string ⟨#[]⟩),.s (.slice none 0 0),.s (.slice none 0 0)] [(0,.t 47),(1,.t 49)],none⟩
def T5_2p6:=hT R5_2p6 [50] [51] 52 [] [(51,.op (.build [.s (.slice none 0 0)] [(0,1)] [(0,.t 0)]) [.t 50])] [sb []]
def X5_2t6:=hS R5_2t6 R5_2p6 R5_2t7 [50] [51] [1,43,44,45,46,47,48,49,50,51]
def X5_2t7:=hP R5_2t7 R5_2t8 [] [1,43,44,45,46,47,48,49,50,51] ⟨some 2,.alloc [.s (.slice none 0 0)],none⟩
def X5_2t8:=hX R5_2t8 [1,43,44,45,46,47,48,49,50,51] [⟨none,.store 1 (.t 2) (.t 51),none⟩]
def R5_3t2:LO:=[oM 52 54,⟨some 55,.extract (.t 52) 0,none⟩,⟨some 56,.extract (.t 52) 1,none⟩,oM 3 55,oM 4 56]
def R5_3t1:LO:=⟨some 54,.call (.c (.fn 10 [] [])) [.t 53],none⟩ :: R5_3t2
def R5_3p0:LO:=[⟨some 53,.load true 1 (.t 2),none⟩]
def R5_3:LO:=R5_3p0 ++ R5_3t1
def T5_3p0:=hT R5_3p0 [2] [53] 54 [] [(53,.op (.load true 1 (.t 0)) [.t 2])] [sb []]
def X5_3:=hS R5_3 R5_3p0 R5_3t1 [2] [53] [2,52,53,54,55,56]
def X5_3t1:=hP R5_3t1 R5_3t2 [53] [2,52,53,54,55,56] ⟨some 54,.call (.c (.fn 10 [] [])) [.t 53],none⟩
def T5_3t2:=hT R5_3t2 [2,52,53,54,55,56] [3,4] 57 [] [(3,.op (.extract (.t 0) 0) [.t 54]),(4,.op (.extract (.t 0) 1) [.t 54])] [.tt 54,sb [],.sub 1 [] [],sb [],.sub 1 [] []]
def X5_3t2:=hL R5_3t2 [2,52,53,54,55,56] [3,4]
def R5_4:LO:=[oM 57 4,⟨some 58,.bin .neq (.t 57) (.c (.s (.int .i64 0))),none⟩,oM 59 58,gM 60 3 59 false,⟨some 61,.bin .neq (.t 60) (.c (.s (.string ⟨#[102,117,110,99,32,109,97,105,110,40,41,32,123,10,97,58,10,32,32,120,32,61,32,97,108,108,111,99,97,32,50,10,32,32,109,32,61,32,109,97,108,108,111,99,32,54,52,10,32,32,122,32,61,32,110,117,108,108,10,32,32,102,32,61,32,97,100,100,114,32,109,97,105,110,10,32,32,99,32,61,32,99,111,112,121,32,110,117,108,108,10,32,32,104,32,61,32,112,104,105,32,91,97,58,32,120,44,32,98,58,32,110,117,108,108,93,10,32,32,100,32,61,32,102,105,101,108,100,32,120,32,49,48,10,32,32,108,32,61,32,108,111,97,100,32,100,10,32,32,115,116,111,114,101,32,120,44,32,110,117,108,108,10,32,32,114,32,61,32,99,97,108,108,32,103,40,120,44,32,121,41,10,32,32,99,97,108,108,32,103,40,41,10,32,32,105,32,61,32,105,99,97,108,108,32,102,40,110,117,108,108,41,10,32,32,105,99,97,108,108,32,102,40,41,10,32,32,98,114,32,97,32,98,10,32,32,103,111,116,111,32,97,10,32,32,114,101,116,32,120,10,32,32,114,101,116,10,98,58,10,125,10,102,117,110,99,32,103,40,112,41,32,123,10,125,10]⟩))),some (59,false)⟩,⟨some 62,.pick (.t 59) (.c (.s (.bool true))) (.t 61),none⟩]
def T5_4:=hT R5_4 [3,4,57,58,59,60,61] [62] 63 [] [(62,.pick (.op (.bin .neq (.t 0) (.c (.s (.int .i64 0)))) [.t 4,.c (.s (.int .i64 0))]) (.c (.s (.bool true))) (.op (.bin .neq (.t 0) (.c (.s (.string ⟨#[102,117,110,99,32,109,97,105,110,40,41,32,123,10,97,58,10,32,32,120,32,61,32,97,108,108,111,99,97,32,50,10,32,32,109,32,61,32,109,97,108,108,111,99,32,54,52,10,32,32,122,32,61,32,110,117,108,108,10,32,32,102,32,61,32,97,100,100,114,32,109,97,105,110,10,32,32,99,32,61,32,99,111,112,121,32,110,117,108,108,10,32,32,104,32,61,32,112,104,105,32,91,97,58,32,120,44,32,98,58,32,110,117,108,108,93,10,32,32,100,32,61,32,102,105,101,108,100,32,120,32,49,48,10,32,32,108,32,61,32,108,111,97,100,32,100,10,32,32,115,116,111,114,101,32,120,44,32,110,117,108,108,10,32,32,114,32,61,32,99,97,108,108,32,103,40,120,44,32,121,41,10,32,32,99,97,108,108,32,103,40,41,10,32,32,105,32,61,32,105,99,97,108,108,32,102,40,110,117,108,108,41,10,32,32,105,99,97,108,108,32,102,40,41,10,32,32,98,114,32,97,32,98,10,32,32,103,111,116,111,32,97,10,32,32,114,101,116,32,120,10,32,32,114,101,116,10,98,58,10,125,10,102,117,110,99,32,103,40,112,41,32,123,10,125,10]⟩)))) [.t 3,.c (.s (.string ⟨#[102,117,110,99,32,109,97,105,110,40,41,32,123,10,97,58,10,32,32,120,32,61,32,97,108,108,111,99,97,32,50,10,32,32,109,32,61,32,109,97,108,108,111,99,32,54,52,10,32,32,122,32,61,32,110,117,108,108,10,32,32,102,32,61,32,97,100,100,114,32,109,97,105,110,10,32,32,99,32,61,32,99,111,112,121,32,110,117,108,108,10,32,32,104,32,61,32,112,104,105,32,91,97,58,32,120,44,32,98,58,32,110,117,108,108,93,10,32,32,100,32,61,32,102,105,101,108,100,32,120,32,49,48,10,32,32,108,32,61,32,108,111,97,100,32,100,10,32,32,115,116,111,114,101,32,120,44,32,110,117,108,108,10,32,32,114,32,61,32,99,97,108,108,32,103,40,120,44,32,121,41,10,32,32,99,97,108,108,32,103,40,41,10,32,32,105,32,61,32,105,99,97,108,108,32,102,40,110,117,108,108,41,10,32,32,105,99,97,108,108,32,102,40,41,10,32,32,98,114,32,97,32,98,10,32,32,103,111,116,111,32,97,10,32,32,114,101,116,32,120,10,32,32,114,101,116,10,98,58,10,125,10,102,117,110,99,32,103,40,112,41,32,123,10,125,10]⟩))]))] [.tt 4,sb [0],sb [0],.sub 0 [2,0] [59],.sub 0 [2] [59],sb []]
def R5_5:LO:=[⟨some 0,.move (.c (.s (.bool false))),none⟩]
def T5_5:=hT R5_5 [62] [0] 1 [] [(0,.c (.s (.bool false)))] [.cc (.s (.bool false))]
def R5_6:LO:=[⟨some 5,.move (.c (.fn 13 [] [])),none⟩]
def T5_6:=hT R5_6 [62] [5] 6 [] [(5,.c (.fn 13 [] []))] [.cc (.fn 13 [] [])]
def R5_7t27:LO:=[oM 6 97]
def R5_7t26:LO:=⟨some 97,.buildSl 1 10 [.s (.slice none 0 0),.s (.slice none 0 0),.s (.slice none 0 0),.s (.slice none 0 0),.s (.slice none 0 0),.s (.slice none 0 0),.s (.slice none 0 0),.s (.slice none 0 0),.s (.slice none 0 0),.s (.slice none 0 0)] [(0,.t 65),(1,.t 68),(2,.t 72),(3,.t 77),(4,.t 80),(5,.t 83),(6,.t 86),(7,.t 89),(8,.t 92),(9,.t 96)],none⟩ :: R5_7t27
def R5_7t25:LO:=⟨some 96,.call (.t 93) [.t 95],none⟩ :: R5_7t26
def R5_7p24:LO:=[⟨some 95,.build [.s (.int .u8 0),.s (.string ⟨#[]⟩),.s (.string ⟨#[]⟩),.s (.string ⟨#[]⟩),.s (.int .i64 0),.s (.string ⟨#[]⟩),.s (.slice none 0 0),.s (.slice none 0 0)] [(0,1),(1,1),(2,1),(3,1),(4,1),(5,1),(6,1),(7,1)] [(0,.c (.s (.int .u8 6))),(1,.c (.s (.string ⟨#[120]⟩))),(6,.t 94)],none⟩]
def R5_7t24:LO:=R5_7p24 ++ R5_7t25
def R5_7t23:LO:=⟨some 94,.buildSl 1 1 [.s (.string ⟨#[]⟩)] [(0,.c (.s (.string ⟨#[121]⟩)))],none⟩ :: R5_7t24
def R5_7p22:LO:=[oM 93 5]
def R5_7t22:LO:=R5_7p22 ++ R5_7t23
def R5_7t21:LO:=⟨some 92,.call (.t 90) [.t 91],none⟩ :: R5_7t22
def R5_7p20:LO:=[oM 90 5,⟨some 91,.build [.s (.int .u8 0),.s (.string ⟨#[]⟩),.s (.string ⟨#[]⟩),.s (.string ⟨#[]⟩),.s (.int .i64 0),.s (.string ⟨#[]⟩),.s (.slice none 0 0),.s (.slice none 0 0)] [(0,1),(1,1),(2,1),(3,1),(4,1),(5,1),(6,1),(7,1)] [(0,.c (.s (.int .u8 5))),(1,.c (.s (.string ⟨#[110,117,108,108]⟩))),(2,.c (.s (.string ⟨#[120]⟩)))],none⟩]
def R5_7t20:LO:=R5_7p20 ++ R5_7t21
def R5_7t19:LO:=⟨some 89,.call (.t 87) [.t 88],none⟩ :: R5_7t20
def R5_7p18:LO:=[oM 87 5,⟨some 88,.build [.s (.int .u8 0),.s (.string ⟨#[]⟩),.s (.string ⟨#[]⟩),.s (.string ⟨#[]⟩),.s (.int .i64 0),.s (.string ⟨#[]⟩),.s (.slice none 0 0),.s (.slice none 0 0)] [(0,1),(1,1),(2,1),(3,1),(4,1),(5,1),(6,1),(7,1)] [(0,.c (.s (.int .u8 1))),(1,.c (.s (.string ⟨#[120]⟩)))],none⟩]
def R5_7t18:LO:=R5_7p18 ++ R5_7t19
def R5_7t17:LO:=⟨some 86,.call (.t 84) [.t 85],none⟩ :: R5_7t18
def R5_7p16:LO:=[oM 84 5,⟨some 85,.build [.s (.int .u8 0),.s (.string ⟨#[]⟩),.s (.string ⟨#[]⟩),.s (.string ⟨#[]⟩),.s (.int .i64 0),.s (.string ⟨#[]⟩),.s (.slice none 0 0),.s (.slice none 0 0)] [(0,1),(1,1),(2,1),(3,1),(4,1),(5,1),(6,1),(7,1)] [(0,.c (.s (.int .u8 5))),(1,.c (.s (.string ⟨#[120]⟩)))],none⟩]
def R5_7t16:LO:=R5_7p16 ++ R5_7t17
def R5_7t15:LO:=⟨some 83,.call (.t 81) [.t 82],none⟩ :: R5_7t16
def R5_7p14:LO:=[oM 81 5,⟨some 82,.build [.s (.int .u8 0),.s (.string ⟨#[]⟩),.s (.string ⟨#[]⟩),.s (.string ⟨#[]⟩),.s (.int .i64 0),.s (.string ⟨#[]⟩),.s (.slice none 0 0),.s (.slice none 0 0)] [(0,1),(1,1),(2,1),(3,1),(4,1),(5,1),(6,1),(7,1)] [(0,.c (.s (.int .u8 14))),(3,.c (.s (.string ⟨#[120]⟩)))],none⟩]
def R5_7t14:LO:=R5_7p14 ++ R5_7t15
def R5_7t13:LO:=⟨some 80,.call (.t 78) [.t 79],none⟩ :: R5_7t14
def R5_7p12:LO:=[⟨some 77,.build [.s (.slice none 0 0)] [(0,1)] [(0,.t 76)],none⟩,oM 78 5,⟨some 79,.build [.s (.int .u8 0),.s (.string ⟨#[]⟩),.s (.string ⟨#[]⟩),.s (.string ⟨#[]⟩),.s (.int .i64 0),.s (.string ⟨#[]⟩),.s (.slice none 0 0),.s (.slice none 0 0)] [(0,1),(1,1),(2,1),(3,1),(4,1),(5,1),(6,1),(7,1)] [],none⟩]
def R5_7t12:LO:=R5_7p12 ++ R5_7t13
def R5_7t11:LO:=⟨some 76,.buildSl 3 1 [.s (.string ⟨#[]⟩),.s (.slice none 0 0),.s (.slice none 0 0)] [(0,.t 75)],none⟩ :: R5_7t12
def R5_7p10:LO:=[⟨some 75,.build [.s (.string ⟨#[]⟩),.s (.slice none 0 0),.s (.slice none 0 0)] [(0,1),(1,1),(2,1)] [(0,.c (.s (.string ⟨#[102]⟩))),(2,.t 74)],none⟩]
def R5_7t10:LO:=R5_7p10 ++ R5_7t11
def R5_7t9:LO:=⟨some 74,.buildSl 2 1 [.s (.string ⟨#[]⟩),.s (.slice none 0 0)] [(0,.t 73)],none⟩ :: R5_7t10
def R5_7p8:LO:=[⟨some 72,.build [.s (.slice none 0 0)] [(0,1)] [(0,.t 71)],none⟩,⟨some 73,.build [.s (.string ⟨#[]⟩),.s (.slice none 0 0)] [(0,1),(1,1)] [],none⟩]
def R5_7t8:LO:=R5_7p8 ++ R5_7t9
def R5_7t7:LO:=⟨some 71,.buildSl 3 1 [.s (.string ⟨#[]⟩),.s (.slice none 0 0),.s (.slice none 0 0)] [(0,.t 70)],none⟩ :: R5_7t8
def R5_7p6:LO:=[⟨some 70,.build [.s (.string ⟨#[]⟩),.s (.slice none 0 0),.s (.slice none 0 0)] [(0,1),(1,1),(2,1)] [(0,.c (.s (.string ⟨#[102]⟩))),(1,.t 69)],none⟩]
def R5_7t6:LO:=R5_7p6 ++ R5_7t7
def R5_7t5:LO:=⟨some 69,.buildSl 1 1 [.s (.string ⟨#[]⟩)] [(0,.c (.s (.string ⟨#[]⟩)))],none⟩ :: R5_7t6
def R5_7p4:LO:=[⟨some 68,.build [.s (.slice none 0 0)] [(0,1)] [(0,.t 67)],none⟩]
def R5_7t4:LO:=R5_7p4 ++ R5_7t5
def R5_7t3:LO:=⟨some 67,.buildSl 3 1 [.s (.string ⟨#[]⟩),.s (.slice none 0 0),.s (.slice none 0 0)] [(0,.t 66)],none⟩ :: R5_7t4
def R5_7p2:LO:=[⟨some 65,.build [.s (.slice none 0 0)] [(0,1)] [(0,.t 64)],none⟩,⟨some 66,.build [.s (.string ⟨#[]⟩),.s (.slice none 0 0),.s (.slice none 0 0)] [(0,1),(1,1),(2,1)] [(0,.c (.s (.string ⟨#[110,117,108,108]⟩)))],none⟩]
def R5_7t2:LO:=R5_7p2 ++ R5_7t3
def R5_7t1:LO:=⟨some 64,.buildSl 3 1 [.s (.string ⟨#[]⟩),.s (.slice none 0 0),.s (.slice none 0 0)] [(0,.t 63)],none⟩ :: R5_7t2
def R5_7p0:LO:=[⟨some 63,.build [.s (.string ⟨#[]⟩),.s (.slice none 0 0),.s (.slice none 0 0)] [(0,1),(1,1),(2,1)] [(0,.c (.s (.string ⟨#[49]⟩)))],none⟩]
def R5_7:LO:=R5_7p0 ++ R5_7t1
def T5_7p0:=hT R5_7p0 [] [63] 64 [] [(63,.op (.build [.s (.string ⟨#[]⟩),.s (.slice none 0 0),.s (.slice none 0 0)] [(0,1),(1,1),(2,1)] [(0,.c (.s (.string ⟨#[49]⟩)))]) [.c (.s (.string ⟨#[49]⟩))])] [sb []]
def X5_7:=hS R5_7 R5_7p0 R5_7t1 [] [63] [5,63,64,65,66,67,68,69,70,71,72,73,74,75,76,77,78,79,80,81,82,83,84,85,86,87,88,89,90,91,92,93,94,95,96,97]
def X5_7t1:=hP R5_7t1 R5_7t2 [63] [5,63,64,65,66,67,68,69,70,71,72,73,74,75,76,77,78,79,80,81,82,83,84,85,86,87,88,89,90,91,92,93,94,95,96,97] ⟨some 64,.buildSl 3 1 [.s (.string ⟨#[]⟩),.s (.slice none 0 0),.s (.slice none 0 0)] [(0,.t 63)],none⟩
def T5_7p2:=hT R5_7p2 [64] [65,66] 67 [] [(65,.op (.build [.s (.slice none 0 0)] [(0,1)] [(0,.t 0)]) [.t 64]),(66,.op (.build [.s (.string ⟨#[]⟩),.s (.slice none 0 0),.s (.slice none 0 0)] [(0,1),(1,1),(2,1)] [(0,.c (.s (.string ⟨#[110,117,108,108]⟩)))]) [.c (.s (.string ⟨#[110,117,108,108]⟩))])] [sb [],.sub 1 [] []]
def X5_7t2:=hS R5_7t2 R5_7p2 R5_7t3 [64] [65,66] [5,63,64,65,66,67,68,69,70,71,72,73,74,75,76,77,78,79,80,81,82,83,84,85,86,87,88,89,90,91,92,93,94,95,96,97]
def X5_7t3:=hP R5_7t3 R5_7t4 [66] [5,63,64,65,66,67,68,69,70,71,72,73,74,75,76,77,78,79,80,81,82,83,84,85,86,87,88,89,90,91,92,93,94,95,96,97] ⟨some 67,.buildSl 3 1 [.s (.string ⟨#[]⟩),.s (.slice none 0 0),.s (.slice none 0 0)] [(0,.t 66)],none⟩
def T5_7p4:=hT R5_7p4 [67] [68] 69 [] [(68,.op (.build [.s (.slice none 0 0)] [(0,1)] [(0,.t 0)]) [.t 67])] [sb []]
def X5_7t4:=hS R5_7t4 R5_7p4 R5_7t5 [67] [68] [5,63,64,65,66,67,68,69,70,71,72,73,74,75,76,77,78,79,80,81,82,83,84,85,86,87,88,89,90,91,92,93,94,95,96,97]
def X5_7t5:=hP R5_7t5 R5_7t6 [] [5,63,64,65,66,67,68,69,70,71,72,73,74,75,76,77,78,79,80,81,82,83,84,85,86,87,88,89,90,91,92,93,94,95,96,97] ⟨some 69,.buildSl 1 1 [.s (.string ⟨#[]⟩)] [(0,.c (.s (.string ⟨#[]⟩)))],none⟩
def T5_7p6:=hT R5_7p6 [69] [70] 71 [] [(70,.op (.build [.s (.string ⟨#[]⟩),.s (.slice none 0 0),.s (.slice none 0 0)] [(0,1),(1,1),(2,1)] [(0,.c (.s (.string ⟨#[102]⟩))),(1,.t 1)]) [.c (.s (.string ⟨#[102]⟩)),.t 69])] [sb []]
def X5_7t6:=hS R5_7t6 R5_7p6 R5_7t7 [69] [70] [5,63,64,65,66,67,68,69,70,71,72,73,74,75,76,77,78,79,80,81,82,83,84,85,86,87,88,89,90,91,92,93,94,95,96,97]
def X5_7t7:=hP R5_7t7 R5_7t8 [70] [5,63,64,65,66,67,68,69,70,71,72,73,74,75,76,77,78,79,80,81,82,83,84,85,86,87,88,89,90,91,92,93,94,95,96,97] ⟨some 71,.buildSl 3 1 [.s (.string ⟨#[]⟩),.s (.slice none 0 0),.s (.slice none 0 0)] [(0,.t 70)],none⟩
def T5_7p8:=hT R5_7p8 [71] [72,73] 74 [] [(72,.op (.build [.s (.slice none 0 0)] [(0,1)] [(0,.t 0)]) [.t 71]),(73,.op (.build [.s (.string ⟨#[]⟩),.s (.slice none 0 0)] [(0,1),(1,1)] []) [])] [sb [],.sub 1 [] []]
def X5_7t8:=hS R5_7t8 R5_7p8 R5_7t9 [71] [72,73] [5,63,64,65,66,67,68,69,70,71,72,73,74,75,76,77,78,79,80,81,82,83,84,85,86,87,88,89,90,91,92,93,94,95,96,97]
def X5_7t9:=hP R5_7t9 R5_7t10 [73] [5,63,64,65,66,67,68,69,70,71,72,73,74,75,76,77,78,79,80,81,82,83,84,85,86,87,88,89,90,91,92,93,94,95,96,97] ⟨some 74,.buildSl 2 1 [.s (.string ⟨#[]⟩),.s (.slice none 0 0)] [(0,.t 73)],none⟩
def T5_7p10:=hT R5_7p10 [74] [75] 76 [] [(75,.op (.build [.s (.string ⟨#[]⟩),.s (.slice none 0 0),.s (.slice none 0 0)] [(0,1),(1,1),(2,1)] [(0,.c (.s (.string ⟨#[102]⟩))),(2,.t 1)]) [.c (.s (.string ⟨#[102]⟩)),.t 74])] [sb []]
def X5_7t10:=hS R5_7t10 R5_7p10 R5_7t11 [74] [75] [5,63,64,65,66,67,68,69,70,71,72,73,74,75,76,77,78,79,80,81,82,83,84,85,86,87,88,89,90,91,92,93,94,95,96,97]
def X5_7t11:=hP R5_7t11 R5_7t12 [75] [5,63,64,65,66,67,68,69,70,71,72,73,74,75,76,77,78,79,80,81,82,83,84,85,86,87,88,89,90,91,92,93,94,95,96,97] ⟨some 76,.buildSl 3 1 [.s (.string ⟨#[]⟩),.s (.slice none 0 0),.s (.slice none 0 0)] [(0,.t 75)],none⟩
def T5_7p12:=hT R5_7p12 [76] [77,78,79] 80 [] [(77,.op (.build [.s (.slice none 0 0)] [(0,1)] [(0,.t 0)]) [.t 76]),(78,.t 5),(79,.op (.build [.s (.int .u8 0),.s (.string ⟨#[]⟩),.s (.string ⟨#[]⟩),.s (.string ⟨#[]⟩),.s (.int .i64 0),.s (.string ⟨#[]⟩),.s (.slice none 0 0),.s (.slice none 0 0)] [(0,1),(1,1),(2,1),(3,1),(4,1),(5,1),(6,1),(7,1)] []) [])] [sb [],.tt 5,.sub 2 [] []]
def X5_7t12:=hS R5_7t12 R5_7p12 R5_7t13 [76] [77,78,79] [5,63,64,65,66,67,68,69,70,71,72,73,74,75,76,77,78,79,80,81,82,83,84,85,86,87,88,89,90,91,92,93,94,95,96,97]
def X5_7t13:=hP R5_7t13 R5_7t14 [78,79] [5,63,64,65,66,67,68,69,70,71,72,73,74,75,76,77,78,79,80,81,82,83,84,85,86,87,88,89,90,91,92,93,94,95,96,97] ⟨some 80,.call (.t 78) [.t 79],none⟩
def T5_7p14:=hT R5_7p14 [] [81,82] 83 [] [(81,.t 5),(82,.op (.build [.s (.int .u8 0),.s (.string ⟨#[]⟩),.s (.string ⟨#[]⟩),.s (.string ⟨#[]⟩),.s (.int .i64 0),.s (.string ⟨#[]⟩),.s (.slice none 0 0),.s (.slice none 0 0)] [(0,1),(1,1),(2,1),(3,1),(4,1),(5,1),(6,1),(7,1)] [(0,.c (.s (.int .u8 14))),(3,.c (.s (.string ⟨#[120]⟩)))]) [.c (.s (.int .u8 14)),.c (.s (.string ⟨#[120]⟩))])] [.tt 5,.sub 1 [] []]
def X5_7t14:=hS R5_7t14 R5_7p14 R5_7t15 [] [81,82] [5,63,64,65,66,67,68,69,70,71,72,73,74,75,76,77,78,79,80,81,82,83,84,85,86,87,88,89,90,91,92,93,94,95,96,97]
def X5_7t15:=hP R5_7t15 R5_7t16 [81,82] [5,63,64,65,66,67,68,69,70,71,72,73,74,75,76,77,78,79,80,81,82,83,84,85,86,87,88,89,90,91,92,93,94,95,96,97] ⟨some 83,.call (.t 81) [.t 82],none⟩
def T5_7p16:=hT R5_7p16 [] [84,85] 86 [] [(84,.t 5),(85,.op (.build [.s (.int .u8 0),.s (.string ⟨#[]⟩),.s (.string ⟨#[]⟩),.s (.string ⟨#[]⟩),.s (.int .i64 0),.s (.string ⟨#[]⟩),.s (.slice none 0 0),.s (.slice none 0 0)] [(0,1),(1,1),(2,1),(3,1),(4,1),(5,1),(6,1),(7,1)] [(0,.c (.s (.int .u8 5))),(1,.c (.s (.string ⟨#[120]⟩)))]) [.c (.s (.int .u8 5)),.c (.s (.string ⟨#[120]⟩))])] [.tt 5,.sub 1 [] []]
def X5_7t16:=hS R5_7t16 R5_7p16 R5_7t17 [] [84,85] [5,63,64,65,66,67,68,69,70,71,72,73,74,75,76,77,78,79,80,81,82,83,84,85,86,87,88,89,90,91,92,93,94,95,96,97]
def X5_7t17:=hP R5_7t17 R5_7t18 [84,85] [5,63,64,65,66,67,68,69,70,71,72,73,74,75,76,77,78,79,80,81,82,83,84,85,86,87,88,89,90,91,92,93,94,95,96,97] ⟨some 86,.call (.t 84) [.t 85],none⟩
def T5_7p18:=hT R5_7p18 [] [87,88] 89 [] [(87,.t 5),(88,.op (.build [.s (.int .u8 0),.s (.string ⟨#[]⟩),.s (.string ⟨#[]⟩),.s (.string ⟨#[]⟩),.s (.int .i64 0),.s (.string ⟨#[]⟩),.s (.slice none 0 0),.s (.slice none 0 0)] [(0,1),(1,1),(2,1),(3,1),(4,1),(5,1),(6,1),(7,1)] [(0,.c (.s (.int .u8 1))),(1,.c (.s (.string ⟨#[120]⟩)))]) [.c (.s (.int .u8 1)),.c (.s (.string ⟨#[120]⟩))])] [.tt 5,.sub 1 [] []]
def X5_7t18:=hS R5_7t18 R5_7p18 R5_7t19 [] [87,88] [5,63,64,65,66,67,68,69,70,71,72,73,74,75,76,77,78,79,80,81,82,83,84,85,86,87,88,89,90,91,92,93,94,95,96,97]
def X5_7t19:=hP R5_7t19 R5_7t20 [87,88] [5,63,64,65,66,67,68,69,70,71,72,73,74,75,76,77,78,79,80,81,82,83,84,85,86,87,88,89,90,91,92,93,94,95,96,97] ⟨some 89,.call (.t 87) [.t 88],none⟩
def T5_7p20:=hT R5_7p20 [] [90,91] 92 [] [(90,.t 5),(91,.op (.build [.s (.int .u8 0),.s (.string ⟨#[]⟩),.s (.string ⟨#[]⟩),.s (.string ⟨#[]⟩),.s (.int .i64 0),.s (.string ⟨#[]⟩),.s (.slice none 0 0),.s (.slice none 0 0)] [(0,1),(1,1),(2,1),(3,1),(4,1),(5,1),(6,1),(7,1)] [(0,.c (.s (.int .u8 5))),(1,.c (.s (.string ⟨#[110,117,108,108]⟩))),(2,.c (.s (.string ⟨#[120]⟩)))]) [.c (.s (.int .u8 5)),.c (.s (.string ⟨#[110,117,108,108]⟩)),.c (.s (.string ⟨#[120]⟩))])] [.tt 5,.sub 1 [] []]
def X5_7t20:=hS R5_7t20 R5_7p20 R5_7t21 [] [90,91] [5,63,64,65,66,67,68,69,70,71,72,73,74,75,76,77,78,79,80,81,82,83,84,85,86,87,88,89,90,91,92,93,94,95,96,97]
def X5_7t21:=hP R5_7t21 R5_7t22 [90,91] [5,63,64,65,66,67,68,69,70,71,72,73,74,75,76,77,78,79,80,81,82,83,84,85,86,87,88,89,90,91,92,93,94,95,96,97] ⟨some 92,.call (.t 90) [.t 91],none⟩
def T5_7p22:=hT R5_7p22 [5] [93] 94 [] [(93,.t 5)] [.tt 5]
def X5_7t22:=hS R5_7t22 R5_7p22 R5_7t23 [5] [93] [5,63,64,65,66,67,68,69,70,71,72,73,74,75,76,77,78,79,80,81,82,83,84,85,86,87,88,89,90,91,92,93,94,95,96,97]
def X5_7t23:=hP R5_7t23 R5_7t24 [] [5,63,64,65,66,67,68,69,70,71,72,73,74,75,76,77,78,79,80,81,82,83,84,85,86,87,88,89,90,91,92,93,94,95,96,97] ⟨some 94,.buildSl 1 1 [.s (.string ⟨#[]⟩)] [(0,.c (.s (.string ⟨#[121]⟩)))],none⟩
def T5_7p24:=hT R5_7p24 [94] [95] 96 [] [(95,.op (.build [.s (.int .u8 0),.s (.string ⟨#[]⟩),.s (.string ⟨#[]⟩),.s (.string ⟨#[]⟩),.s (.int .i64 0),.s (.string ⟨#[]⟩),.s (.slice none 0 0),.s (.slice none 0 0)] [(0,1),(1,1),(2,1),(3,1),(4,1),(5,1),(6,1),(7,1)] [(0,.c (.s (.int .u8 6))),(1,.c (.s (.string ⟨#[120]⟩))),(6,.t 2)]) [.c (.s (.int .u8 6)),.c (.s (.string ⟨#[120]⟩)),.t 94])] [sb []]
def X5_7t24:=hS R5_7t24 R5_7p24 R5_7t25 [94] [95] [5,63,64,65,66,67,68,69,70,71,72,73,74,75,76,77,78,79,80,81,82,83,84,85,86,87,88,89,90,91,92,93,94,95,96,97]
def X5_7t25:=hP R5_7t25 R5_7t26 [93,95] [5,63,64,65,66,67,68,69,70,71,72,73,74,75,76,77,78,79,80,81,82,83,84,85,86,87,88,89,90,91,92,93,94,95,96,97] ⟨some 96,.call (.t 93) [.t 95],none⟩
def X5_7t26:=hP R5_7t26 R5_7t27 [65,68,72,77,80,83,86,89,92,96] [5,63,64,65,66,67,68,69,70,71,72,73,74,75,76,77,78,79,80,81,82,83,84,85,86,87,88,89,90,91,92,93,94,95,96,97] ⟨some 97,.buildSl 1 10 [.s (.slice none 0 0),.s (.slice none 0 0),.s (.slice none 0 0),.s (.slice none 0 0),.s (.slice none 0 0),.s (.slice none 0 0),.s (.slice none 0 0),.s (.slice none 0 0),.s (.slice none 0 0),.s (.slice none 0 0)] [(0,.t 65),(1,.t 68),(2,.t 72),(3,.t 77),(4,.t 80),(5,.t 83),(6,.t 86),(7,.t 89),(8,.t 92),(9,.t 96)],none⟩
def T5_7t27:=hT R5_7t27 [5,63,64,65,66,67,68,69,70,71,72,73,74,75,76,77,78,79,80,81,82,83,84,85,86,87,88,89,90,91,92,93,94,95,96,97] [6] 7 [] [(6,.t 97)] [.tt 97]
def X5_7t27:=hL R5_7t27 [5,63,64,65,66,67,68,69,70,71,72,73,74,75,76,77,78,79,80,81,82,83,84,85,86,87,88,89,90,91,92,93,94,95,96,97] [6]
def R5_8:LO:=[⟨some 7,.move (.c (.s (.int .i64 0))),none⟩]
def T5_8:=hT R5_8 [] [7] 8 [] [(7,.c (.s (.int .i64 0)))] [.cc (.s (.int .i64 0))]
def R5_9:LO:=[oM 98 7,oM 99 6,⟨some 100,.lenS .s (.t 99),none⟩,⟨some 101,.bin .lss (.t 98) (.t 100),none⟩]
def T5_9:=hT R5_9 [98,99,100] [101] 102 [] [(101,.op (.bin .lss (.t 0) (.t 1)) [.t 7,.op (.lenS .s (.t 0)) [.t 6]])] [.tt 7,.tt 6,sb [1],sb []]
def R5_10t2:LO:=[oM 104 109,⟨some 110,.extract (.t 104) 0,none⟩,⟨some 111,.extract (.t 104) 1,none⟩,oM 8 110,oM 9 111]
def R5_10t1:LO:=⟨some 109,.call (.c (.fn 10 [] [])) [.t 108],none⟩ :: R5_10t2
def R5_10p0:LO:=[oM 105 6,oM 106 7,⟨some 107,.indexAddr 1 (.t 105) (.t 106),none⟩,⟨some 108,.load true 1 (.t 107),none⟩]
def R5_10:LO:=R5_10p0 ++ R5_10t1
def T5_10p0:=hT R5_10p0 [101,105,106,107] [108] 109 [] [(108,.op (.load true 1 (.t 0)) [.op (.indexAddr 1 (.t 0) (.t 1)) [.t 6,.t 7]])] [.tt 6,.tt 7,sb [0],sb []]
def X5_10:=hS R5_10 R5_10p0 R5_10t1 [101,105,106,107] [108] [101,104,105,106,107,108,109,110,111]
def X5_10t1:=hP R5_10t1 R5_10t2 [108] [101,104,105,106,107,108,109,110,111] ⟨some 109,.call (.c (.fn 10 [] [])) [.t 108],none⟩
def T5_10t2:=hT R5_10t2 [101,104,105,106,107,108,109,110,111] [8,9] 112 [] [(8,.op (.extract (.t 0) 0) [.t 109]),(9,.op (.extract (.t 0) 1) [.t 109])] [.tt 109,sb [],.sub 1 [] [],sb [],.sub 1 [] []]
def X5_10t2:=hL R5_10t2 [101,104,105,106,107,108,109,110,111] [8,9]
def R5_11:LO:=[oM 112 9,⟨some 113,.bin .neq (.t 112) (.c (.s (.int .i64 5))),none⟩,oM 114 113,gM 115 8 114 false,⟨some 116,.bin .neq (.t 115) (.c (.s (.string ⟨#[]⟩))),some (114,false)⟩,⟨some 117,.pick (.t 114) (.c (.s (.bool true))) (.t 116),none⟩]
def T5_11:=hT R5_11 [8,9,112,113,114,115,116] [117] 118 [] [(117,.pick (.op (.bin .neq (.t 0) (.c (.s (.int .i64 5)))) [.t 9,.c (.s (.int .i64 5))]) (.c (.s (.bool true))) (.op (.bin .neq (.t 0) (.c (.s (.string ⟨#[]⟩)))) [.t 8,.c (.s (.string ⟨#[]⟩))]))] [.tt 9,sb [0],sb [0],.sub 0 [2,0] [114],.sub 0 [2] [114],sb []]
def R5_12:LO:=[⟨some 0,.move (.c (.s (.bool false))),none⟩]
def T5_12:=hT R5_12 [6,7,117] [0] 1 [] [(0,.c (.s (.bool false)))] [.cc (.s (.bool false))]
def R5_13:LO:=[oM 102 7,⟨some 103,.bin .add (.t 102) (.c (.s (.int .i64 1))),none⟩,oM 7 103]
def T5_13:=hT R5_13 [102,103,117] [7] 104 [] [(7,.op (.bin .add (.t 0) (.c (.s (.int .i64 1)))) [.t 7,.c (.s (.int .i64 1))])] [.tt 7,sb [],sb []]
def s_f5_l0_b:ACode:=
 (.seq (.seq (.regionE R5_9 [98,99,100] [101])
 (.cond (.t 101)
 .skip
 (.exit 0)))
 (.seq (.block 1
 (.seq (.region R5_10 [] [101,104,105,106,107,108,109,110,111])
 (.seq (.regionE R5_11 [8,9,112,113,114,115,116] [117])
 (.cond (.t 117)
 (.seq (.regionE R5_12 [6,7,117] [0])
 .ret)
 .skip))))
 (.regionE R5_13 [102,103,117] [7])))
def s_f5_l0:ACode:=s_f5_l0_b
def s_f5_l0_ev:=hE s_f5_l0 s_f5_l0_b
def R5_14t2:LO:=[oM 118 120,⟨some 121,.extract (.t 118) 0,none⟩,⟨some 122,.extract (.t 118) 1,none⟩,oM 10 121,oM 11 122]
def R5_14t1:LO:=⟨some 120,.call (.c (.fn 10 [] [])) [.t 119],none⟩ :: R5_14t2
def R5_14p0:LO:=[⟨some 119,.build [.s (.slice none 0 0)] [(0,1)] [],none⟩]
def R5_14:LO:=R5_14p0 ++ R5_14t1
def T5_14p0:=hT R5_14p0 [6,7,101] [119] 120 [] [(119,.op (.build [.s (.slice none 0 0)] [(0,1)] []) [])] [sb []]
def X5_14:=hS R5_14 R5_14p0 R5_14t1 [6,7,101] [119] [6,7,101,118,119,120,121,122]
def X5_14t1:=hP R5_14t1 R5_14t2 [119] [6,7,101,118,119,120,121,122] ⟨some 120,.call (.c (.fn 10 [] [])) [.t 119],none⟩
def T5_14t2:=hT R5_14t2 [6,7,101,118,119,120,121,122] [10,11] 123 [] [(10,.op (.extract (.t 0) 0) [.t 120]),(11,.op (.extract (.t 0) 1) [.t 120])] [.tt 120,sb [],.sub 1 [] [],sb [],.sub 1 [] []]
def X5_14t2:=hL R5_14t2 [6,7,101,118,119,120,121,122] [10,11]
def R5_15t5:LO:=[⟨none,.store 3 (.t 12) (.t 126),none⟩]
def R5_15t4:LO:=⟨some 12,.alloc [.s (.string ⟨#[]⟩),.s (.slice none 0 0),.s (.slice none 0 0)],none⟩ :: R5_15t5
def R5_15p3:LO:=[⟨some 126,.build [.s (.string ⟨#[]⟩),.s (.slice none 0 0),.s (.slice none 0 0)] [(0,1),(1,1),(2,1)] [(0,.c (.s (.string ⟨#[102]⟩))),(2,.t 125)],none⟩]
def R5_15t3:LO:=R5_15p3 ++ R5_15t4
def R5_15t2:LO:=⟨some 125,.buildSl 2 1 [.s (.string ⟨#[]⟩),.s (.slice none 0 0)] [(0,.t 124)],none⟩ :: R5_15t3
def R5_15p1:LO:=[⟨some 124,.build [.s (.string ⟨#[]⟩),.s (.slice none 0 0)] [(0,1),(1,1)] [(0,.c (.s (.string ⟨#[97]⟩))),(1,.t 123)],none⟩]
def R5_15t1:LO:=R5_15p1 ++ R5_15t2
def R5_15:LO:=⟨some 123,.mkSl [.s (.int .u8 0),.s (.string ⟨#[]⟩),.s (.string ⟨#[]⟩),.s (.string ⟨#[]⟩),.s (.int .i64 0),.s (.string ⟨#[]⟩),.s (.slice none 0 0),.s (.slice none 0 0)] 8 128 (.c (.s (.int .i64 131072))) (.c (.s (.int .i64 131072))),none⟩ :: R5_15t1
def X5_15:=hP R5_15 R5_15t1 [] [123,124,125,126] ⟨some 123,.mkSl [.s (.int .u8 0),.s (.string ⟨#[]⟩),.s (.string ⟨#[]⟩),.s (.string ⟨#[]⟩),.s (.int .i64 0),.s (.string ⟨#[]⟩),.s (.slice none 0 0),.s (.slice none 0 0)] 8 128 (.c (.s (.int .i64 131072))) (.c (.s (.int .i64 131072))),none⟩
def T5_15p1:=hT R5_15p1 [123] [124] 125 [] [(124,.op (.build [.s (.string ⟨#[]⟩),.s (.slice none 0 0)] [(0,1),(1,1)] [(0,.c (.s (.string ⟨#[97]⟩))),(1,.t 1)]) [.c (.s (.string ⟨#[97]⟩)),.t 123])] [sb []]
def X5_15t1:=hS R5_15t1 R5_15p1 R5_15t2 [123] [124] [123,124,125,126]
def X5_15t2:=hP R5_15t2 R5_15t3 [124] [123,124,125,126] ⟨some 125,.buildSl 2 1 [.s (.string ⟨#[]⟩),.s (.slice none 0 0)] [(0,.t 124)],none⟩
def T5_15p3:=hT R5_15p3 [125] [126] 127 [] [(126,.op (.build [.s (.string ⟨#[]⟩),.s (.slice none 0 0),.s (.slice none 0 0)] [(0,1),(1,1),(2,1)] [(0,.c (.s (.string ⟨#[102]⟩))),(2,.t 1)]) [.c (.s (.string ⟨#[102]⟩)),.t 125])] [sb []]
def X5_15t3:=hS R5_15t3 R5_15p3 R5_15t4 [125] [126] [123,124,125,126]
def X5_15t4:=hP R5_15t4 R5_15t5 [] [123,124,125,126] ⟨some 12,.alloc [.s (.string ⟨#[]⟩),.s (.slice none 0 0),.s (.slice none 0 0)],none⟩
def X5_15t5:=hX R5_15t5 [123,124,125,126] [⟨none,.store 3 (.t 12) (.t 126),none⟩]
def R5_16:LO:=[⟨some 13,.move (.c (.s (.int .i64 0))),none⟩]
def T5_16:=hT R5_16 [] [13] 14 [] [(13,.c (.s (.int .i64 0)))] [.cc (.s (.int .i64 0))]
def R5_17:LO:=[oM 127 13,⟨some 128,.bin .lss (.t 127) (.c (.s (.int .i64 131072))),none⟩]
def T5_17:=hT R5_17 [127] [128] 129 [] [(128,.op (.bin .lss (.t 0) (.c (.s (.int .i64 131072)))) [.t 13,.c (.s (.int .i64 131072))])] [.tt 13,sb []]
def R5_18t1:LO:=[⟨none,.store 1 (.t 138) (.c (.s (.int .u8 14))),none⟩]
def R5_18p0:LO:=[oF 131 2 12,oL 132 131,⟨some 133,.indexAddr 2 (.t 132) (.c (.s (.int .i64 0))),none⟩,oF 134 1 133,oL 135 134,oM 136 13,⟨some 137,.indexAddr 8 (.t 135) (.t 136),none⟩,oF 138 0 137]
def R5_18:LO:=R5_18p0 ++ R5_18t1
def T5_18p0:=hT R5_18p0 [128,131,132,133,134,135,136,137] [138] 139 [] [(138,.op (.fieldAddr 0 (.t 0)) [.op (.indexAddr 8 (.t 0) (.t 1)) [.op (.load false 1 (.t 0)) [.op (.fieldAddr 1 (.t 0)) [.op (.indexAddr 2 (.t 0) (.c (.s (.int .i64 0)))) [.op (.load false 1 (.t 0)) [.op (.fieldAddr 2 (.t 0)) [.t 12]],.c (.s (.int .i64 0))]]],.t 13]])] [sb [0,0,0,0,0,0],sb [0,0,0,0,0],sb [0,0,0,0],sb [0,0,0],sb [0,0],.tt 13,sb [0],sb []]
def X5_18:=hS R5_18 R5_18p0 R5_18t1 [128,131,132,133,134,135,136,137] [138] [128,131,132,133,134,135,136,137,138]
def X5_18t1:=hX R5_18t1 [128,131,132,133,134,135,136,137,138] [⟨none,.store 1 (.t 138) (.c (.s (.int .u8 14))),none⟩]
def R5_19:LO:=[oM 129 13,⟨some 130,.bin .add (.t 129) (.c (.s (.int .i64 1))),none⟩,oM 13 130]
def T5_19:=hT R5_19 [129,130] [13] 131 [] [(13,.op (.bin .add (.t 0) (.c (.s (.int .i64 1)))) [.t 13,.c (.s (.int .i64 1))])] [.tt 13,sb [],sb []]
def s_f5_l1_b:ACode:=
 (.seq (.seq (.regionE R5_17 [127] [128])
 (.cond (.t 128)
 .skip
 (.exit 2)))
 (.seq (.block 3
 (.region R5_18 [] [128,131,132,133,134,135,136,137,138]))
 (.regionE R5_19 [129,130] [13])))
def s_f5_l1:ACode:=s_f5_l1_b
def s_f5_l1_ev:=hE s_f5_l1 s_f5_l1_b
def R5_20t4:LO:=[oM 139 143,⟨some 144,.extract (.t 139) 0,none⟩,⟨some 145,.extract (.t 139) 1,none⟩,oM 14 144,oM 15 145]
def R5_20t3:LO:=⟨some 143,.call (.c (.fn 10 [] [])) [.t 142],none⟩ :: R5_20t4
def R5_20p2:LO:=[⟨some 142,.build [.s (.slice none 0 0)] [(0,1)] [(0,.t 141)],none⟩]
def R5_20t2:LO:=R5_20p2 ++ R5_20t3
def R5_20t1:LO:=⟨some 141,.buildSl 3 1 [.s (.string ⟨#[]⟩),.s (.slice none 0 0),.s (.slice none 0 0)] [(0,.t 140)],none⟩ :: R5_20t2
def R5_20p0:LO:=[⟨some 140,.load true 3 (.t 12),none⟩]
def R5_20:LO:=R5_20p0 ++ R5_20t1
def T5_20p0:=hT R5_20p0 [13,128] [140] 141 [] [(140,.op (.load true 3 (.t 0)) [.t 12])] [sb []]
def X5_20:=hS R5_20 R5_20p0 R5_20t1 [13,128] [140] [13,128,139,140,141,142,143,144,145]
def X5_20t1:=hP R5_20t1 R5_20t2 [140] [13,128,139,140,141,142,143,144,145] ⟨some 141,.buildSl 3 1 [.s (.string ⟨#[]⟩),.s (.slice none 0 0),.s (.slice none 0 0)] [(0,.t 140)],none⟩
def T5_20p2:=hT R5_20p2 [141] [142] 143 [] [(142,.op (.build [.s (.slice none 0 0)] [(0,1)] [(0,.t 0)]) [.t 141])] [sb []]
def X5_20t2:=hS R5_20t2 R5_20p2 R5_20t3 [141] [142] [13,128,139,140,141,142,143,144,145]
def X5_20t3:=hP R5_20t3 R5_20t4 [142] [13,128,139,140,141,142,143,144,145] ⟨some 143,.call (.c (.fn 10 [] [])) [.t 142],none⟩
def T5_20t4:=hT R5_20t4 [13,128,139,140,141,142,143,144,145] [14,15] 146 [] [(14,.op (.extract (.t 0) 0) [.t 143]),(15,.op (.extract (.t 0) 1) [.t 143])] [.tt 143,sb [],.sub 1 [] [],sb [],.sub 1 [] []]
def X5_20t4:=hL R5_20t4 [13,128,139,140,141,142,143,144,145] [14,15]
def R5_21:LO:=[⟨some 16,.move (.c (.s (.int .i64 0))),none⟩]
def T5_21:=hT R5_21 [] [16] 17 [] [(16,.c (.s (.int .i64 0)))] [.cc (.s (.int .i64 0))]
def R5_22:LO:=[oM 146 16,⟨some 147,.bin .lss (.t 146) (.c (.s (.int .i64 131072))),none⟩]
def T5_22:=hT R5_22 [146] [147] 148 [] [(147,.op (.bin .lss (.t 0) (.c (.s (.int .i64 131072)))) [.t 16,.c (.s (.int .i64 131072))])] [.tt 16,sb []]
def R5_23t1:LO:=[⟨none,.store 1 (.t 157) (.c (.s (.string ⟨#[120,120]⟩))),none⟩]
def R5_23p0:LO:=[oF 150 2 12,oL 151 150,⟨some 152,.indexAddr 2 (.t 151) (.c (.s (.int .i64 0))),none⟩,oF 153 1 152,oL 154 153,oM 155 16,⟨some 156,.indexAddr 8 (.t 154) (.t 155),none⟩,oF 157 2 156]
def R5_23:LO:=R5_23p0 ++ R5_23t1
def T5_23p0:=hT R5_23p0 [147,150,151,152,153,154,155,156] [157] 158 [] [(157,.op (.fieldAddr 2 (.t 0)) [.op (.indexAddr 8 (.t 0) (.t 1)) [.op (.load false 1 (.t 0)) [.op (.fieldAddr 1 (.t 0)) [.op (.indexAddr 2 (.t 0) (.c (.s (.int .i64 0)))) [.op (.load false 1 (.t 0)) [.op (.fieldAddr 2 (.t 0)) [.t 12]],.c (.s (.int .i64 0))]]],.t 16]])] [sb [0,0,0,0,0,0],sb [0,0,0,0,0],sb [0,0,0,0],sb [0,0,0],sb [0,0],.tt 16,sb [0],sb []]
def X5_23:=hS R5_23 R5_23p0 R5_23t1 [147,150,151,152,153,154,155,156] [157] [147,150,151,152,153,154,155,156,157]
def X5_23t1:=hX R5_23t1 [147,150,151,152,153,154,155,156,157] [⟨none,.store 1 (.t 157) (.c (.s (.string ⟨#[120,120]⟩))),none⟩]
def R5_24:LO:=[oM 148 16,⟨some 149,.bin .add (.t 148) (.c (.s (.int .i64 1))),none⟩,oM 16 149]
def T5_24:=hT R5_24 [148,149] [16] 150 [] [(16,.op (.bin .add (.t 0) (.c (.s (.int .i64 1)))) [.t 16,.c (.s (.int .i64 1))])] [.tt 16,sb [],sb []]
def s_f5_l2_b:ACode:=
 (.seq (.seq (.regionE R5_22 [146] [147])
 (.cond (.t 147)
 .skip
 (.exit 4)))
 (.seq (.block 5
 (.region R5_23 [] [147,150,151,152,153,154,155,156,157]))
 (.regionE R5_24 [148,149] [16])))
def s_f5_l2:ACode:=s_f5_l2_b
def s_f5_l2_ev:=hE s_f5_l2 s_f5_l2_b
def R5_25t4:LO:=[oM 158 162,⟨some 163,.extract (.t 158) 0,none⟩,⟨some 164,.extract (.t 158) 1,none⟩,oM 17 163,oM 18 164]
def R5_25t3:LO:=⟨some 162,.call (.c (.fn 10 [] [])) [.t 161],none⟩ :: R5_25t4
def R5_25p2:LO:=[⟨some 161,.build [.s (.slice none 0 0)] [(0,1)] [(0,.t 160)],none⟩]
def R5_25t2:LO:=R5_25p2 ++ R5_25t3
def R5_25t1:LO:=⟨some 160,.buildSl 3 1 [.s (.string ⟨#[]⟩),.s (.slice none 0 0),.s (.slice none 0 0)] [(0,.t 159)],none⟩ :: R5_25t2
def R5_25p0:LO:=[⟨some 159,.load true 3 (.t 12),none⟩]
def R5_25:LO:=R5_25p0 ++ R5_25t1
def T5_25p0:=hT R5_25p0 [12,16,147] [159] 160 [] [(159,.op (.load true 3 (.t 0)) [.t 12])] [sb []]
def X5_25:=hS R5_25 R5_25p0 R5_25t1 [12,16,147] [159] [12,16,147,158,159,160,161,162,163,164]
def X5_25t1:=hP R5_25t1 R5_25t2 [159] [12,16,147,158,159,160,161,162,163,164] ⟨some 160,.buildSl 3 1 [.s (.string ⟨#[]⟩),.s (.slice none 0 0),.s (.slice none 0 0)] [(0,.t 159)],none⟩
def T5_25p2:=hT R5_25p2 [160] [161] 162 [] [(161,.op (.build [.s (.slice none 0 0)] [(0,1)] [(0,.t 0)]) [.t 160])] [sb []]
def X5_25t2:=hS R5_25t2 R5_25p2 R5_25t3 [160] [161] [12,16,147,158,159,160,161,162,163,164]
def X5_25t3:=hP R5_25t3 R5_25t4 [161] [12,16,147,158,159,160,161,162,163,164] ⟨some 162,.call (.c (.fn 10 [] [])) [.t 161],none⟩
def T5_25t4:=hT R5_25t4 [12,16,147,158,159,160,161,162,163,164] [17,18] 165 [] [(17,.op (.extract (.t 0) 0) [.t 162]),(18,.op (.extract (.t 0) 1) [.t 162])] [.tt 162,sb [],.sub 1 [] [],sb [],.sub 1 [] []]
def X5_25t4:=hL R5_25t4 [12,16,147,158,159,160,161,162,163,164] [17,18]
def R5_26t2:LO:=[⟨some 190,.pick (.t 188) (.t 189) (.c (.s (.bool false))),none⟩,oM 0 190]
def R5_26t1:LO:=⟨some 189,.call (.c (.fn 8 [] [])) [],some (188,true)⟩ :: R5_26t2
def R5_26p0:LO:=[oM 165 11,⟨some 166,.bin .eql (.t 165) (.c (.s (.int .i64 0))),none⟩,oM 167 166,gM 168 10 167 true,⟨some 169,.bin .eql (.t 168) (.c (.s (.string ⟨#[]⟩))),some (167,true)⟩,⟨some 170,.pick (.t 167) (.t 169) (.c (.s (.bool false))),none⟩,oM 171 170,gM 172 15 171 true,⟨some 173,.bin .eql (.t 172) (.c (.s (.int .i64 0))),some (171,true)⟩,⟨some 174,.pick (.t 171) (.t 173) (.c (.s (.bool false))),none⟩,oM 175 174,gM 176 14 175 true,⟨some 177,.lenS .p (.t 176),some (175,true)⟩,⟨some 178,.bin .eql (.t 177) (.c (.s (.int .i64 786448))),some (175,true)⟩,⟨some 179,.pick (.t 175) (.t 178) (.c (.s (.bool false))),none⟩,oM 180 179,gM 181 18 180 true,⟨some 182,.bin .eql (.t 181) (.c (.s (.int .i64 2))),some (180,true)⟩,⟨some 183,.pick (.t 180) (.t 182) (.c (.s (.bool false))),none⟩,oM 184 183,gM 185 17 184 true,⟨some 186,.bin .eql (.t 185) (.c (.s (.string ⟨#[]⟩))),some (184,true)⟩,⟨some 187,.pick (.t 184) (.t 186) (.c (.s (.bool false))),none⟩,oM 188 187]
def R5_26:LO:=R5_26p0 ++ R5_26t1
def T5_26p0:=hT R5_26p0 [10,11,14,15,17,18,165,166,167,168,169,170,171,172,173,174,175,176,177,178,179,180,181,182,183,184,185,186,187] [188] 189 [] [(188,.pick (.pick (.pick (.pick (.pick (.op (.bin .eql (.t 0) (.c (.s (.int .i64 0)))) [.t 11,.c (.s (.int .i64 0))]) (.op (.bin .eql (.t 0) (.c (.s (.string ⟨#[]⟩)))) [.t 10,.c (.s (.string ⟨#[]⟩))]) (.c (.s (.bool false)))) (.op (.bin .eql (.t 0) (.c (.s (.int .i64 0)))) [.t 15,.c (.s (.int .i64 0))]) (.c (.s (.bool false)))) (.op (.bin .eql (.t 0) (.c (.s (.int .i64 786448)))) [.op (.lenS .p (.t 0)) [.t 14],.c (.s (.int .i64 786448))]) (.c (.s (.bool false)))) (.op (.bin .eql (.t 0) (.c (.s (.int .i64 2)))) [.t 18,.c (.s (.int .i64 2))]) (.c (.s (.bool false)))) (.op (.bin .eql (.t 0) (.c (.s (.string ⟨#[]⟩)))) [.t 17,.c (.s (.string ⟨#[]⟩))]) (.c (.s (.bool false))))] [.tt 11,sb [0,0,0,0,0],sb [0,0,0,0,0],.sub 0 [0,0,0,0,1,0] [167],.sub 0 [0,0,0,0,1] [167],sb [0,0,0,0],sb [0,0,0,0],.sub 0 [0,0,0,1,0] [171],.sub 0 [0,0,0,1] [171],sb [0,0,0],sb [0,0,0],.sub 0 [0,0,1,0,0] [175],.sub 0 [0,0,1,0] [175],.sub 0 [0,0,1] [175],sb [0,0],sb [0,0],.sub 0 [0,1,0] [180],.sub 0 [0,1] [180],sb [0],sb [0],.sub 0 [1,0] [184],.sub 0 [1] [184],sb [],sb []]
def X5_26:=hS R5_26 R5_26p0 R5_26t1 [10,11,14,15,17,18,165,166,167,168,169,170,171,172,173,174,175,176,177,178,179,180,181,182,183,184,185,186,187] [188] [10,11,14,15,17,18,165,166,167,168,169,170,171,172,173,174,175,176,177,178,179,180,181,182,183,184,185,186,187,188,189,190]
def X5_26t1:=hP R5_26t1 R5_26t2 [] [10,11,14,15,17,18,165,166,167,168,169,170,171,172,173,174,175,176,177,178,179,180,181,182,183,184,185,186,187,188,189,190] ⟨some 189,.call (.c (.fn 8 [] [])) [],some (188,true)⟩
def T5_26t2:=hT R5_26t2 [10,11,14,15,17,18,165,166,167,168,169,170,171,172,173,174,175,176,177,178,179,180,181,182,183,184,185,186,187,188,189,190] [0] 191 [] [(0,.pick (.t 188) (.t 189) (.c (.s (.bool false))))] [sb [],sb []]
def X5_26t2:=hL R5_26t2 [10,11,14,15,17,18,165,166,167,168,169,170,171,172,173,174,175,176,177,178,179,180,181,182,183,184,185,186,187,188,189,190] [0]
def s_f5:ACFun:={ ntmps:=191,results:=[.tmp 0],body:=
 (.seq (.regionE R5_0 K5_0 [])
 (.seq (.region R5_1 [] [19,20,21,22,23,24,25,26,27,28,29,30,31,32,33,34,35,36,37,38,39,40,41,42])
 (.seq (.region R5_2 [] [1,43,44,45,46,47,48,49,50,51])
 (.seq (.region R5_3 [] [2,52,53,54,55,56])
 (.seq (.seq (.regionE R5_4 [3,4,57,58,59,60,61] [62])
 (.cond (.t 62)
 (.seq (.regionE R5_5 [62] [0])
 .ret)
 .skip))
 (.seq (.regionE R5_6 [62] [5])
 (.seq (.region R5_7 [] [5,63,64,65,66,67,68,69,70,71,72,73,74,75,76,77,78,79,80,81,82,83,84,85,86,87,88,89,90,91,92,93,94,95,96,97])
 (.seq (.seq (.regionE R5_8 [] [7])
 (.block 0
 (.loop [] s_f5_l0)))
 (.seq (.region R5_14 [] [6,7,101,118,119,120,121,122])
 (.seq (.region R5_15 [] [123,124,125,126])
 (.seq (.seq (.regionE R5_16 [] [13])
 (.block 2
 (.loop [] s_f5_l1)))
 (.seq (.region R5_20 [] [13,128,139,140,141,142,143,144,145])
 (.seq (.seq (.regionE R5_21 [] [16])
 (.block 4
 (.loop [] s_f5_l2)))
 (.seq (.region R5_25 [] [12,16,147,158,159,160,161,162,163,164])
 (.seq (.region R5_26 [] [10,11,14,15,17,18,165,166,167,168,169,170,171,172,173,174,175,176,177,178,179,180,181,182,183,184,185,186,187,188,189,190])
 .ret))))))))))))))) }
abbrev k_f13:Nat:=13
def K13_0:List Nat:=[0,3,4,5,6,7,8,9]
def A13_0_0:=hQ K13_0 0
def A13_0_1:=hK K13_0 1
def A13_0_2:=hK K13_0 2
def R13_0t1:LO:=[⟨some 2,.alloc [.s (.slice none 0 0)],none⟩]
def R13_0:LO:=⟨some 1,.box (.t 0),none⟩ :: R13_0t1
def X13_0:=hP R13_0 R13_0t1 [0,2,3,4,5,6,7,8,9] K13_0 ⟨some 1,.box (.t 0),none⟩
def X13_0t1:=hX R13_0t1 K13_0 [⟨some 2,.alloc [.s (.slice none 0 0)],none⟩]
def R13_1t7:LO:=[⟨none,.store 1 (.t 2) (.t 9),none⟩]
def R13_1p6:LO:=[⟨some 9,.build [.s (.slice none 0 0)] [(0,1)] [(0,.t 8)],none⟩]
def R13_1t6:LO:=R13_1p6 ++ R13_1t7
def R13_1t5:LO:=⟨some 8,.buildSl 3 1 [.s (.string ⟨#[]⟩),.s (.slice none 0 0),.s (.slice none 0 0)] [(0,.t 7)],none⟩ :: R13_1t6
def R13_1p4:LO:=[⟨some 7,.build [.s (.string ⟨#[]⟩),.s (.slice none 0 0),.s (.slice none 0 0)] [(0,1),(1,1),(2,1)] [(0,.c (.s (.string ⟨#[109,97,105,110]⟩))),(2,.t 6)],none⟩]
def R13_1t4:LO:=R13_1p4 ++ R13_1t5
def R13_1t3:LO:=⟨some 6,.buildSl 2 1 [.s (.string ⟨#[]⟩),.s (.slice none 0 0)] [(0,.t 5)],none⟩ :: R13_1t4
def R13_1p2:LO:=[⟨some 5,.build [.s (.string ⟨#[]⟩),.s (.slice none 0 0)] [(0,1),(1,1)] [(0,.c (.s (.string ⟨#[97]⟩))),(1,.t 4)],none⟩]
def R13_1t2:LO:=R13_1p2 ++ R13_1t3
def R13_1t1:LO:=⟨some 4,.buildSl 8 1 [.s (.int .u8 0),.s (.string ⟨#[]⟩),.s (.string ⟨#[]⟩),.s (.string ⟨#[]⟩),.s (.int .i64 0),.s (.string ⟨#[]⟩),.s (.slice none 0 0),.s (.slice none 0 0)] [(0,.t 3)],none⟩ :: R13_1t2
def R13_1p0:LO:=[⟨some 3,.load true 8 (.t 1),none⟩]
def R13_1:LO:=R13_1p0 ++ R13_1t1
def T13_1p0:=hT R13_1p0 [1] [3] 4 [] [(3,.op (.load true 8 (.t 0)) [.t 1])] [sb []]
def X13_1:=hS R13_1 R13_1p0 R13_1t1 [1] [3] [1,3,4,5,6,7,8,9]
def X13_1t1:=hP R13_1t1 R13_1t2 [3] [1,3,4,5,6,7,8,9] ⟨some 4,.buildSl 8 1 [.s (.int .u8 0),.s (.string ⟨#[]⟩),.s (.string ⟨#[]⟩),.s (.string ⟨#[]⟩),.s (.int .i64 0),.s (.string ⟨#[]⟩),.s (.slice none 0 0),.s (.slice none 0 0)] [(0,.t 3)],none⟩
def T13_1p2:=hT R13_1p2 [4] [5] 6 [] [(5,.op (.build [.s (.string ⟨#[]⟩),.s (.slice none 0 0)] [(0,1),(1,1)] [(0,.c (.s (.string ⟨#[97]⟩))),(1,.t 1)]) [.c (.s (.string ⟨#[97]⟩)),.t 4])] [sb []]
def X13_1t2:=hS R13_1t2 R13_1p2 R13_1t3 [4] [5] [1,3,4,5,6,7,8,9]
def X13_1t3:=hP R13_1t3 R13_1t4 [5] [1,3,4,5,6,7,8,9] ⟨some 6,.buildSl 2 1 [.s (.string ⟨#[]⟩),.s (.slice none 0 0)] [(0,.t 5)],none⟩
def T13_1p4:=hT R13_1p4 [6] [7] 8 [] [(7,.op (.build [.s (.string ⟨#[]⟩),.s (.slice none 0 0),.s (.slice none 0 0)] [(0,1),(1,1),(2,1)] [(0,.c (.s (.string ⟨#[109,97,105,110]⟩))),(2,.t 1)]) [.c (.s (.string ⟨#[109,97,105,110]⟩)),.t 6])] [sb []]
def X13_1t4:=hS R13_1t4 R13_1p4 R13_1t5 [6] [7] [1,3,4,5,6,7,8,9]
def X13_1t5:=hP R13_1t5 R13_1t6 [7] [1,3,4,5,6,7,8,9] ⟨some 8,.buildSl 3 1 [.s (.string ⟨#[]⟩),.s (.slice none 0 0),.s (.slice none 0 0)] [(0,.t 7)],none⟩
def T13_1p6:=hT R13_1p6 [8] [9] 10 [] [(9,.op (.build [.s (.slice none 0 0)] [(0,1)] [(0,.t 0)]) [.t 8])] [sb []]
def X13_1t6:=hS R13_1t6 R13_1p6 R13_1t7 [8] [9] [1,3,4,5,6,7,8,9]
def X13_1t7:=hX R13_1t7 [1,3,4,5,6,7,8,9] [⟨none,.store 1 (.t 2) (.t 9),none⟩]
def s_f13:ACFun:={ ntmps:=10,results:=[.cell 2 true 1],body:=
 (.seq (.region R13_0 [] K13_0)
 (.seq (.region R13_1 [] [1,3,4,5,6,7,8,9])
 .ret)) }
theorem s_f13_first:firstOk (List.range' 1 (s_f13.ntmps - 1)) s_f13.body=true:=by kernel_rfl
def a_f5:=ai T5_0 (ai s_f5_r0_kT (ai T5_1p0 (ai X5_1 (ai X5_1t1 (ai X5_1t2 (ai T5_1p3 (ai X5_1t3 (ai X5_1t4 (ai T5_1p5 (ai X5_1t5 (ai X5_1t6 (ai T5_1p7 (ai X5_1t7 (ai X5_1t8 (ai T5_1p9 (ai X5_1t9 (ai X5_1t10 (ai T5_1p11 (ai X5_1t11 (ai X5_1t12 (ai T5_1t13 (ai X5_1t13 (ai T5_2p0 (ai X5_2 (ai X5_2t1 (ai T5_2p2 (ai X5_2t2 (ai X5_2t3 (ai T5_2p4 (ai X5_2t4 (ai X5_2t5 (ai T5_2p6 (ai X5_2t6 (ai X5_2t7 (ai X5_2t8 (ai T5_3p0 (ai X5_3 (ai X5_3t1 (ai T5_3t2 (ai X5_3t2 (ai T5_4 (ai T5_5 (ai T5_6 (ai T5_7p0 (ai X5_7 (ai X5_7t1 (ai T5_7p2 (ai X5_7t2 (ai X5_7t3 (ai T5_7p4 (ai X5_7t4 (ai X5_7t5 (ai T5_7p6 (ai X5_7t6 (ai X5_7t7 (ai T5_7p8 (ai X5_7t8 (ai X5_7t9 (ai T5_7p10 (ai X5_7t10 (ai X5_7t11 (ai T5_7p12 (ai X5_7t12 (ai X5_7t13 (ai T5_7p14 (ai X5_7t14 (ai X5_7t15 (ai T5_7p16 (ai X5_7t16 (ai X5_7t17 (ai T5_7p18 (ai X5_7t18 (ai X5_7t19 (ai T5_7p20 (ai X5_7t20 (ai X5_7t21 (ai T5_7p22 (ai X5_7t22 (ai X5_7t23 (ai T5_7p24 (ai X5_7t24 (ai X5_7t25 (ai X5_7t26 (ai T5_7t27 (ai X5_7t27 (ai T5_8 (ai T5_9 (ai T5_10p0 (ai X5_10 (ai X5_10t1 (ai T5_10t2 (ai X5_10t2 (ai T5_11 (ai T5_12 (ai T5_13 (ai s_f5_l0_ev (ai T5_14p0 (ai X5_14 (ai X5_14t1 (ai T5_14t2 (ai X5_14t2 (ai X5_15 (ai T5_15p1 (ai X5_15t1 (ai X5_15t2 (ai T5_15p3 (ai X5_15t3 (ai X5_15t4 (ai X5_15t5 (ai T5_16 (ai T5_17 (ai T5_18p0 (ai X5_18 (ai X5_18t1 (ai T5_19 (ai s_f5_l1_ev (ai T5_20p0 (ai X5_20 (ai X5_20t1 (ai T5_20p2 (ai X5_20t2 (ai X5_20t3 (ai T5_20t4 (ai X5_20t4 (ai T5_21 (ai T5_22 (ai T5_23p0 (ai X5_23 (ai X5_23t1 (ai T5_24 (ai s_f5_l2_ev (ai T5_25p0 (ai X5_25 (ai X5_25t1 (ai T5_25p2 (ai X5_25t2 (ai X5_25t3 (ai T5_25t4 (ai X5_25t4 (ai T5_26p0 (ai X5_26 (ai X5_26t1 (ai T5_26t2 (X5_26t2))))))))))))))))))))))))))))))))))))))))))))))))))))))))))))))))))))))))))))))))))))))))))))))))))))))))))))))))))))))))))))))))))))))))))))))))
def a_f13:=ai X13_0 (ai X13_0t1 (ai A13_0_0 (ai A13_0_1 (ai A13_0_2 (ai T13_1p0 (ai X13_1 (ai X13_1t1 (ai T13_1p2 (ai X13_1t2 (ai X13_1t3 (ai T13_1p4 (ai X13_1t4 (ai X13_1t5 (ai T13_1p6 (ai X13_1t6 (X13_1t7))))))))))))))))
theorem SA5_5:compK Tryz.prog PX0 5=some (false,s_f5.ntmps,s_f5.results,s_f5.body.bare):=by kernel_rfl
theorem SA5_13:compK Tryz.prog PX0 13=some (false,s_f13.ntmps,s_f13.results,s_f13.body.bare):=by kernel_rfl
end Go.Proofs.YtngfpadeebpoeaaGreatDoor
set_option maxRecDepth 100000
namespace Go.Proofs.YtngfpadeebpoeaaGreatDoor
open Go.AM
theorem flat_set {w:Nat} {x:V}:∀ {R:List (List V)} {k j:Nat} {r:List V},(∀ r∈R,r.length=w)→R[k]?=some r→j < w→R.flatten.set (k * w+j) x=(R.set k (r.set j x)).flatten:=by
 intro R
 induction R with
 | nil=>intro k j r _ h;simp at h
 | cons a R ih=>
   intro k j r hR hk hj
   have ha:=hR a List.mem_cons_self
   cases k with
   | zero=>
     rw [List.getElem?_cons_zero] at hk
     obtain rfl:=Option.some.inj hk
     rw [Nat.zero_mul,Nat.zero_add,List.flatten_cons,List.set_append_left _ _ (by omega)]
     rfl
   | succ k=>
     rw [List.getElem?_cons_succ] at hk
     rw [List.flatten_cons,List.set_append_right _ _ (by rw [ha,Nat.succ_mul];omega),show (k+1) * w+j - a.length=k * w+j by rw [ha,Nat.succ_mul];omega,ih (fun r hr=>hR r (List.mem_cons_of_mem _ hr)) hk hj]
     rfl
def rowsK (N k:Nat) (r1 r0:List V):List (List V):=List.replicate k r1 ++ List.replicate (N - k) r0
theorem rowsK_len {N k:Nat} (hk:k≤N) (r1 r0:List V):(rowsK N k r1 r0).length=N:=by
 simp only [rowsK,List.length_append,List.length_replicate];omega
theorem rowsK_mem {N k w:Nat} {r1 r0:List V} (h1:r1.length=w) (h0:r0.length=w):∀ r∈rowsK N k r1 r0,r.length=w:=by
 intro r hr
 rcases List.mem_append.1 hr with h | h
 ·rw [(List.mem_replicate.1 h).2,h1]
 ·rw [(List.mem_replicate.1 h).2,h0]
theorem rowsK_at {N k:Nat} (hk:k < N) (r1 r0:List V):(rowsK N k r1 r0)[k]?=some r0:=by
 unfold rowsK
 rw [List.getElem?_append_right (by simp),List.length_replicate,Nat.sub_self,List.getElem?_replicate,if_pos (by omega)]
theorem rowsK_set {N k:Nat} (hk:k < N) (r1 r0:List V):(rowsK N k r1 r0).set k r1=rowsK N (k+1) r1 r0:=by
 unfold rowsK
 rw [List.set_append_right _ _ (by simp),List.length_replicate,Nat.sub_self,show N - k=(N - (k+1))+1 by omega,List.replicate_succ,List.set_cons_zero,List.replicate_succ',List.append_assoc]
 rfl
theorem flat_len {w:Nat}:∀ {R:List (List V)},(∀ r∈R,r.length=w)→R.flatten.length=R.length * w:=by
 intro R
 induction R with
 | nil=>intro _;simp
 | cons a R ih=>
   intro h
   rw [List.flatten_cons,List.length_append,h a List.mem_cons_self,ih fun r hr=>h r (List.mem_cons_of_mem _ hr),List.length_cons,Nat.succ_mul]
   omega
theorem rows_store {N k w j base m:Nat} {H:Heap} {r1 r0:List V} {x:V} (hm:m < H.length) (hb:base≤m) (hk:k < N) (h0:r0.length=w) (hj:j < w) (h1:r1=r0.set j x) (ho:x.one=true):
 storeV (H.set m (.cells 0 (rowsK N k r1 r0).flatten)) base 1 x (.ref m 0 (k * w+j))=some (H.set m (.cells 0 (rowsK N (k+1) r1 r0).flatten)):=by
 have hr1:r1.length=w:=by rw [h1,List.length_set,h0]
 have hmem:=rowsK_mem (N:=N) (k:=k) hr1 h0
 have hg:getC (H.set m (.cells 0 (rowsK N k r1 r0).flatten)) m 0=some (rowsK N k r1 r0).flatten:=by
  unfold getC
  rw [List.getElem?_set_self hm]
  rfl
 have hl:k * w+j < (rowsK N k r1 r0).flatten.length:=by
  rw [flat_len hmem,rowsK_len (by omega)]
  calc k * w+j < k * w+w:=by omega
   _=(k+1) * w:=by rw [Nat.succ_mul]
   _≤N * w:=Nat.mul_le_mul_right _ (by omega)
 rw [storeV_at hg hb ho hl,flat_set hmem (rowsK_at hk r1 r0) hj,← h1,rowsK_set hk,List.set_set]
section
variable {CT:Nat→Option CFun}
theorem kn_l1 (base:Nat) {H:Heap} {p q m:Nat} {nm:V} {pv lb:V} {v10:V} {n11:Int} (hp:getC H p 0=some [nm,pv,.sl q 0 0 1 2]) (hq:getC H q 0=some [lb,.sl m 0 0 131072 8]) (hpm:p≠m) (hqm:q≠m) (hm:m < H.length) (hb:base≤m) {r1 r0:List V} (h0:r0.length=8) (h1:r1=r0.set 0 (.s (.int .u8 14))):
 itW (evC (callW CT) itW base s_f5_l1) [] H.length (frOf 191 [(10,v10),(11,Iz n11),(12,.ref p 0 0),(13,Iz 0)]) (H.set m (.cells 0 (rowsK 131072 0 r1 r0).flatten))=some (.ext 2,frOf 191 [(10,v10),(11,Iz n11),(12,.ref p 0 0),(13,Iz 131072),(128,bl false)],H.set m (.cells 0 (rowsK 131072 131072 r1 r0).flatten)):=by
 have h:=it_fun 131072 (fun k=>itW (evC (callW CT) itW base s_f5_l1) [] H.length (frOf 191 [(10,v10),(11,Iz n11),(12,.ref p 0 0),(13,Iz k)]) (H.set m (.cells 0 (rowsK 131072 k r1 r0).flatten))) (fun k hk=>by
  have hlt':((k:Int) < 131072):=by omega
  have hwk:=w64 (n:=k) (by omega)
  have hp':∀ o,getC (H.set m o) p 0=some [nm,pv,.sl q 0 0 1 2]:=fun o=>by unfold getC at hp ⊢;rw [List.getElem?_set_ne (Ne.symm hpm)];exact hp
  have hq':∀ o,getC (H.set m o) q 0=some [lb,.sl m 0 0 131072 8]:=fun o=>by unfold getC at hq ⊢;rw [List.getElem?_set_ne (Ne.symm hqm)];exact hq
  have hidx:xIndexAddr 8 (.sl m 0 0 131072 8) (.s (.int .i64 (k:Int)))=some (.ref m 0 (k * 8)):=by
   rw [xi_sl,if_pos ⟨by omega,by omega,rfl⟩,Int.toNat_natCast,Nat.zero_add]
  have hst:=rows_store (base:=base) hm hb hk h0 (by omega) h1 rfl
  have h01:(0:Int) < ((1:Nat):Int):=by decide
  have hlen:∀ o,(H.set m o).length=H.length:=fun o=>List.length_set
  have hst':=hst
  rw [Nat.add_zero] at hst'
  rw [itW_step]
  simp only [Iz,bl,a_f5,s_f5_l0_b,s_f5_l1_b,s_f5_l2_b,aa,reduceIte,reduceCtorEq,Nat.reduceEqDiff,Nat.reduceLT,Nat.reduceLeDiff,Nat.reduceBEq,Nat.reduceAdd,Nat.reduceMul,op_appR,hlt',h01,hp',hq',hidx,hst,hst',hwk,trim_same (hlen _)]) 0 (Nat.zero_le _)
 rw [cast0] at h
 refine h.trans ?_
 rw [itW_step]
 have hlen:∀ o,(H.set m o).length=H.length:=fun o=>List.length_set
 have e:((131072:Nat):Int)=131072:=rfl
 simp only [Iz,bl,e,a_f5,s_f5_l0_b,s_f5_l1_b,s_f5_l2_b,aa,reduceIte,reduceCtorEq,Nat.reduceEqDiff,Nat.reduceLT,Nat.reduceLeDiff,Nat.reduceBEq,Nat.reduceAdd,Nat.reduceMul,op_appR,Int.lt_irrefl,trim_same (hlen _)]
theorem kn_l2 (base:Nat) {H:Heap} {p q m:Nat} {nm:V} {pv lb:V} {v10 v14:V} {n11 n15:Int} (hp:getC H p 0=some [nm,pv,.sl q 0 0 1 2]) (hq:getC H q 0=some [lb,.sl m 0 0 131072 8]) (hpm:p≠m) (hqm:q≠m) (hm:m < H.length) (hb:base≤m) {r1 r0:List V} (h0:r0.length=8) (h1:r1=r0.set 2 (Sb ⟨#[120,120]⟩)):
 itW (evC (callW CT) itW base s_f5_l2) [] H.length (frOf 191 [(10,v10),(11,Iz n11),(12,.ref p 0 0),(14,v14),(15,Iz n15),(16,Iz 0)]) (H.set m (.cells 0 (rowsK 131072 0 r1 r0).flatten))=some (.ext 4,frOf 191 [(10,v10),(11,Iz n11),(12,.ref p 0 0),(14,v14),(15,Iz n15),(16,Iz 131072),(147,bl false)],H.set m (.cells 0 (rowsK 131072 131072 r1 r0).flatten)):=by
 have h:=it_fun 131072 (fun k=>itW (evC (callW CT) itW base s_f5_l2) [] H.length (frOf 191 [(10,v10),(11,Iz n11),(12,.ref p 0 0),(14,v14),(15,Iz n15),(16,Iz k)]) (H.set m (.cells 0 (rowsK 131072 k r1 r0).flatten))) (fun k hk=>by
  have hlt':((k:Int) < 131072):=by omega
  have hwk:=w64 (n:=k) (by omega)
  have hp':∀ o,getC (H.set m o) p 0=some [nm,pv,.sl q 0 0 1 2]:=fun o=>by unfold getC at hp ⊢;rw [List.getElem?_set_ne (Ne.symm hpm)];exact hp
  have hq':∀ o,getC (H.set m o) q 0=some [lb,.sl m 0 0 131072 8]:=fun o=>by unfold getC at hq ⊢;rw [List.getElem?_set_ne (Ne.symm hqm)];exact hq
  have hidx:xIndexAddr 8 (.sl m 0 0 131072 8) (.s (.int .i64 (k:Int)))=some (.ref m 0 (k * 8)):=by
   rw [xi_sl,if_pos ⟨by omega,by omega,rfl⟩,Int.toNat_natCast,Nat.zero_add]
  have hst:=rows_store (base:=base) hm hb hk h0 (by omega) h1 rfl
  have h01:(0:Int) < ((1:Nat):Int):=by decide
  have hlen:∀ o,(H.set m o).length=H.length:=fun o=>List.length_set
  simp only [Sb] at hst
  have hst':=hst
  rw [itW_step]
  simp only [Iz,bl,Sb,a_f5,s_f5_l0_b,s_f5_l1_b,s_f5_l2_b,aa,reduceIte,reduceCtorEq,Nat.reduceEqDiff,Nat.reduceLT,Nat.reduceLeDiff,Nat.reduceBEq,Nat.reduceAdd,Nat.reduceMul,op_appR,hlt',h01,hp',hq',hidx,hst,hst',hwk,trim_same (hlen _)]) 0 (Nat.zero_le _)
 rw [cast0] at h
 refine h.trans ?_
 rw [itW_step]
 have hlen:∀ o,(H.set m o).length=H.length:=fun o=>List.length_set
 have e:((131072:Nat):Int)=131072:=rfl
 simp only [Iz,bl,e,a_f5,s_f5_l0_b,s_f5_l1_b,s_f5_l2_b,aa,reduceIte,reduceCtorEq,Nat.reduceEqDiff,Nat.reduceLT,Nat.reduceLeDiff,Nat.reduceBEq,Nat.reduceAdd,Nat.reduceMul,op_appR,Int.lt_irrefl,trim_same (hlen _)]
end
end Go.Proofs.YtngfpadeebpoeaaGreatDoor
set_option maxRecDepth 100000
namespace Go.Proofs.YtngfpadeebpoeaaGreatDoor
open Go.AM
def kfMain:ByteArray:=⟨#[109,97,105,110]⟩
def kfA:ByteArray:=⟨#[97]⟩
def kfOne (x:InsD):List FunD:=[⟨kfMain,[],[⟨kfA,[x]⟩]⟩]
theorem rdl_sl {α:Type} {w n id:Nat} {P:Heap→List V→α→Prop} {H:Heap} {R:List (List V)} {l:List α} (hg:getC H id 0=some R.flatten) (hw:∀ r∈R,r.length=w) (hn:R.length=n) (hl:l.length=n) (hb:n < 2 ^ 63) (h:∀ (i:Nat) (r:List V) (x:α),R[i]?=some r→l[i]?=some x→P H r x):RdL w P H (.sl id 0 0 n w) l:=by
 subst hn
 refine ⟨R,RdW.sl hg hw,hl.symm,by omega,fun i x hx=>?_⟩
 have hi:i < R.length:=by have:=(List.getElem?_eq_some_iff.1 hx).1;omega
 exact ⟨R[i],List.getElem?_eq_getElem hi,h i _ x (List.getElem?_eq_getElem hi) hx⟩
theorem rdl_one {α:Type} {w id:Nat} {P:Heap→List V→α→Prop} {H:Heap} {r:List V} {x:α} (hg:getC H id 0=some r) (hw:r.length=w) (h:P H r x):RdL w P H (.sl id 0 0 1 w) [x]:=by
 refine rdl_sl (R:=[r]) (by rw [hg];simp) (fun q hq=>by rw [List.mem_singleton.1 hq];exact hw) rfl rfl (by decide) (fun i q y hq hy=>?_)
 cases i with
 | zero=>cases hq;cases hy;exact h
 | succ i=>simp at hq
theorem rdI_plain (H:Heap) {x:InsD} (h1:x.xs=[]) (h2:x.ls=[]):RdIns H (insC x nilS nilS) x:=
 ⟨nilS,nilS,rfl,by rw [h1];exact Rd.nil H,trivial,by rw [h2];exact Rd.nil H,trivial,by rw [h1,h2];decide⟩
theorem rdP_fun {H:Heap} {id:Nat} {nm:ByteArray} {pv bv:V} {ps:List ByteArray} {bs:List BlkD} (hg:getC H id 0=some [Sb nm,pv,bv]) (hp:Rd H pv (ps.map Sb)) (hw:Wide1 pv) (hn:ps.length < 2 ^ 63) (hb:RdL 2 RdBlk H bv bs):RdProg H (.sl id 0 0 1 3) [⟨nm,ps,bs⟩]:=
 rdl_one (P:=RdFun) hg rfl ⟨pv,bv,rfl,hp,hw,hn,hb⟩
theorem rdl_nil {α:Type} (w:Nat) (P:Heap→List V→α→Prop) (H:Heap):RdL w P H nilS []:=⟨[],RdW.nil w H,rfl,Nat.two_pow_pos 63,fun i x hx=>by simp at hx⟩
section
variable {CT:Nat→Option CFun}
theorem one_fun (hT:CT k_f13=some (.code s_f13)) (base:Nat) {A:Heap} (hb:base≤A.length) {r:List V} {x:InsD} (hr:RdIns A r x):
 ∃ fv H',callW CT (.fn k_f13 [] []) [.agg r] base A=some (.agg [fv],H')∧Ext A H'∧RdProg H' fv (kfOne x):=by
 obtain ⟨A1,hA1⟩:∃ A1,A ++ [Ob.cells 0 r]=A1:=⟨_,rfl⟩
 have l1:A1.length=A.length+1:=by rw [← hA1,len_snoc]
 obtain ⟨A2,hA2⟩:∃ A2,A1 ++ [Ob.cells 0 [nilS]]=A2:=⟨_,rfl⟩
 have l2:A2.length=A.length+2:=by rw [← hA2,len_snoc,l1]
 obtain ⟨A3,hA3⟩:∃ A3,A2 ++ [Ob.cells 0 r]=A3:=⟨_,rfl⟩
 have l3:A3.length=A.length+3:=by rw [← hA3,len_snoc,l2]
 obtain ⟨A4,hA4⟩:∃ A4,A3 ++ [Ob.cells 0 [Sb kfA,.sl (A.length+2) 0 0 1 8]]=A4:=⟨_,rfl⟩
 have l4:A4.length=A.length+4:=by rw [← hA4,len_snoc,l3]
 obtain ⟨A5,hA5⟩:∃ A5,A4 ++ [Ob.cells 0 [Sb kfMain,nilS,.sl (A.length+3) 0 0 1 2]]=A5:=⟨_,rfl⟩
 have l5:A5.length=A.length+5:=by rw [← hA5,len_snoc,l4]
 have e1:Ext A A1:=hA1 ▸ Ext.app _ _
 have e2:Ext A1 A2:=hA2 ▸ Ext.app _ _
 have e3:Ext A2 A3:=hA3 ▸ Ext.app _ _
 have e4:Ext A3 A4:=hA4 ▸ Ext.app _ _
 have e5:Ext A4 A5:=hA5 ▸ Ext.app _ _
 have g1:getC A2 A.length 0=some r:=getC_ext (hA1 ▸ getC_new A 0 _) e2
 have g2:getC A5 (A.length+1) 0=some [nilS]:=getC_ext (by rw [← l1,← hA2];exact getC_new A1 0 _) (e3.trans (e4.trans e5))
 have hk:∀ {i:Nat} {c:List V},i≠A.length+1→getC A5 i 0=some c→∀ o,getC (A5.set (A.length+1) o) i 0=some c:=fun hi hg o=>by
  unfold getC at hg ⊢
  rw [List.getElem?_set_ne (Ne.symm hi)]
  exact hg
 have g3:=hk (by omega) (getC_ext (show getC A3 (A.length+2) 0=some r by rw [← l2,← hA3];exact getC_new A2 0 _) (e4.trans e5))
 have g4:=hk (by omega) (getC_ext (show getC A4 (A.length+3) 0=some [Sb kfA,.sl (A.length+2) 0 0 1 8] by rw [← l3,← hA4];exact getC_new A3 0 _) e5)
 have g5:=hk (by omega) (show getC A5 (A.length+4) 0=some [Sb kfMain,nilS,.sl (A.length+3) 0 0 1 2] by rw [← l4,← hA5];exact getC_new A4 0 _)
 have hEx:Ext A (A5.set (A.length+1) (.cells 0 [.sl (A.length+4) 0 0 1 3])):=(e1.trans (e2.trans (e3.trans (e4.trans e5)))).set (by omega) _
 have hrl:r.length=8:=by obtain ⟨av,lv,rfl,_⟩:=hr;rfl
 have hone:r.all V.one=true:=by
  obtain ⟨av,lv,rfl,q1,_,q3,_⟩:=hr
  have e:(insC x av lv).all V.one=(av.one && (lv.one && true)):=rfl
  rw [e,q1.one,q3.one];rfl
 have hr':=RdIns.ext hr hEx
 refine ⟨.sl (A.length+4) 0 0 1 3,_,callW_fnA (c:=s_f13) (k:=1) hT rfl (by decide) s_f13_first ?_,hEx,rdP_fun (g5 _) (Rd.nil _) trivial (by decide) (rdl_one (P:=RdBlk) (g4 _) rfl ⟨_,rfl,rdl_one (P:=RdIns) (g3 _) hrl hr'⟩)⟩
 have g6:∀ c,getC (A5.set (A.length+1) (.cells 0 c)) (A.length+1) 0=some c:=fun c=>by
  unfold getC
  rw [List.getElem?_set_self (by omega)]
  rfl
 simp only [kfA,kfMain,Sb,nilS] at hA2 hA4 hA5 g2
 have hld:xLoad A2 true 8 (.ref A.length 0 0)=some (.agg r):=by
  rw [xo_ref,g1]
  show (if ((r.drop 0).take 8).length=8 then shut true ((r.drop 0).take 8) else none)=_
  rw [List.drop_zero,List.take_of_length_le (by omega),if_pos hrl]
  rfl
 have xR:loadV (A5.set (A.length+1) (.cells 0 [.sl (A.length+4) 0 0 1 3])) true 1 (.ref (A.length+1) 0 0)=some (.agg [.sl (A.length+4) 0 0 1 3]):=by
  have e:loadV (A5.set (A.length+1) (.cells 0 [.sl (A.length+4) 0 0 1 3])) true 1 (.ref (A.length+1) 0 0)=xLoad (A5.set (A.length+1) (.cells 0 [.sl (A.length+4) 0 0 1 3])) true 1 (.ref (A.length+1) 0 0):=rfl
  rw [e,xo_ref,g6]
  rfl
 simp only [Iz,Sb,bl,nilS,s_f13,a_f13,aa,reduceIte,reduceCtorEq,Nat.reduceEqDiff,Nat.reduceLT,Nat.reduceLeDiff,Nat.reduceBEq,Nat.reduceAdd,Nat.reduceMul,op_appR,hone,hrl,hA1,l1,hA2,l2,hld,hA3,l3,hA4,l4,hA5,l5,g2,g6,show base≤A.length+1 by omega]
 rw [xR]
 rfl
end
end Go.Proofs.YtngfpadeebpoeaaGreatDoor
set_option maxRecDepth 100000
namespace Go.Proofs.YtngfpadeebpoeaaGreatDoor
open Go.AM
def B1 (n:UInt8):ByteArray:=⟨#[n]⟩
def kNull:ByteArray:=⟨#[110,117,108,108]⟩
def E0:ByteArray:=⟨#[]⟩
def knI:List InsD:=[⟨1,B1 120,E0,E0,2,E0,[],[]⟩,⟨2,B1 109,E0,E0,64,E0,[],[]⟩,⟨3,B1 122,E0,E0,0,E0,[],[]⟩,⟨4,B1 102,E0,E0,0,kfMain,[],[]⟩,⟨5,B1 99,kNull,E0,0,E0,[],[]⟩,
 ⟨6,B1 104,E0,E0,0,E0,[B1 120,kNull],[B1 97,B1 98]⟩,⟨7,B1 100,B1 120,E0,10,E0,[],[]⟩,⟨8,B1 108,B1 100,E0,0,E0,[],[]⟩,⟨9,E0,B1 120,kNull,0,E0,[],[]⟩,⟨10,B1 114,E0,E0,0,B1 103,[B1 120,B1 121],[]⟩,
 ⟨10,E0,E0,E0,0,B1 103,[],[]⟩,⟨11,B1 105,B1 102,E0,0,E0,[kNull],[]⟩,⟨11,E0,B1 102,E0,0,E0,[],[]⟩,⟨12,E0,E0,E0,0,E0,[],[B1 97,B1 98]⟩,⟨13,E0,E0,E0,0,E0,[],[B1 97]⟩,⟨14,E0,B1 120,E0,0,E0,[],[]⟩,⟨14,E0,E0,E0,0,E0,[],[]⟩]
def knF:List FunD:=[⟨kfMain,[],[⟨B1 97,knI⟩,⟨B1 98,[]⟩]⟩,⟨B1 103,[B1 112],[]⟩]
theorem knF_2:firstN knF 2=none:=by decide +kernel
theorem knF_9:firstN knF 9=none:=by decide +kernel
def insSm (x:InsD):Bool:=decide (x.d.size≤200) && decide (x.a.size≤200) && decide (x.b.size≤200) && decide (x.f.size≤200) && decide (x.xs.length≤20) && decide (x.ls.length≤20) && x.xs.all (fun s=>decide (s.size≤200)) && x.ls.all (fun s=>decide (s.size≤200)) && !biG x
theorem insSm_of {x:InsD} (h:insSm x=true):SmI x∧FormOk x:=by
 unfold insSm at h
 simp only [Bool.and_eq_true,decide_eq_true_eq,List.all_eq_true,Bool.not_eq_true'] at h
 obtain ⟨⟨⟨⟨⟨⟨⟨⟨h1,h2⟩,h3⟩,h4⟩,h5⟩,h6⟩,h7⟩,h8⟩,h9⟩:=h
 exact ⟨⟨h1,h2,h3,h4,h5,h6,h7,h8⟩,formOk_of h9⟩
def funSm (f:FunD):Bool:=decide (f.name.size≤200) && decide (f.ps.length≤20) && f.ps.all (fun s=>decide (s.size≤200)) && decide (f.blocks.length≤1000) && f.blocks.all fun b=>decide (b.label.size≤200) && decide (b.code.length≤1000) && b.code.all insSm
theorem funSm_of {f:FunD} (h:funSm f=true):SmF f:=by
 unfold funSm at h
 simp only [Bool.and_eq_true,decide_eq_true_eq,List.all_eq_true] at h
 obtain ⟨⟨⟨⟨h1,h2⟩,h3⟩,h4⟩,h5⟩:=h
 exact ⟨h1,h2,h3,fun b hb=>⟨(h5 b hb).1.1,fun x hx=>insSm_of ((h5 b hb).2 x hx),by have:=(h5 b hb).1.2;omega⟩,by omega⟩
def funSz (f:FunD):Bool:=decide (f.ps.length≤1000) && decide (f.blocks.length≤1000) && f.blocks.all fun b=>decide (b.code.length≤1000) && b.code.all fun x=>decide (x.xs.length≤1000) && decide (x.ls.length≤1000)
theorem small_of {fs:List FunD} (hn:fs.length≤1000) (h:fs.all funSz=true):Small fs:=by
 have h':∀ f∈fs,f.ps.length≤1000∧f.blocks.length≤1000∧∀ b∈f.blocks,b.code.length≤1000∧∀ x∈b.code,x.xs.length≤1000∧x.ls.length≤1000:=fun f hf=>by
  have:=List.all_eq_true.1 h f hf
  unfold funSz at this
  simp only [Bool.and_eq_true,decide_eq_true_eq,List.all_eq_true] at this
  obtain ⟨⟨h1,h2⟩,h3⟩:=this
  exact ⟨h1,h2,h3⟩
 refine ⟨by omega,fun f hf=>?_,fun f hf=>?_,fun f hf b hb=>?_,fun f hf b hb x hx=>?_,fun f hf b hb x hx=>?_⟩
 ·have:=(h' f hf).1;omega
 ·have:=(h' f hf).2.1;omega
 ·have:=((h' f hf).2.2 b hb).1;omega
 ·have:=(((h' f hf).2.2 b hb).2 x hx).1;omega
 ·have:=(((h' f hf).2.2 b hb).2 x hx).2;omega
theorem knF_small:Small knF:=small_of (by decide) (by decide +kernel)
theorem knF_sm:∀ f∈knF,SmF f:=fun f hf=>funSm_of (by
 have:∀ f∈knF,funSm f=true:=by
  have:knF.all funSm=true:=by decide +kernel
  exact fun f hf=>List.all_eq_true.1 this f hf
 exact this f hf)
def noI:List InsD:=[⟨0,E0,E0,E0,0,E0,[],[]⟩,⟨14,E0,E0,B1 120,0,E0,[],[]⟩,⟨5,B1 120,E0,E0,0,E0,[],[]⟩,⟨1,B1 120,E0,E0,0,E0,[],[]⟩,⟨5,kNull,B1 120,E0,0,E0,[],[]⟩,⟨6,B1 120,E0,E0,0,E0,[B1 121],[]⟩]
def noP:List (List FunD):=[[⟨B1 49,[],[]⟩],[⟨kNull,[],[]⟩],[⟨B1 102,[E0],[]⟩],[⟨B1 102,[],[⟨E0,[]⟩]⟩]] ++ noI.map kfOne
theorem noP_bad:∀ fs∈noP,Small fs∧((firstN fs 2).isSome=true∨(firstN fs 9).isSome=true):=by
 intro fs hf
 have h1:noP.all (fun fs=>decide (fs.length≤1000) && fs.all funSz && ((firstN fs 2).isSome || (firstN fs 9).isSome))=true:=by decide +kernel
 have:=List.all_eq_true.1 h1 fs hf
 simp only [Bool.and_eq_true,decide_eq_true_eq,Bool.or_eq_true] at this
 exact ⟨small_of this.1.1 this.1.2,this.2⟩
def loI (a:ByteArray):InsD:=⟨14,E0,a,E0,0,E0,[],[]⟩
def loF (a:ByteArray):List FunD:=[⟨B1 102,[],[⟨B1 97,List.replicate 131072 (loI a)⟩]⟩]
theorem loF_x {a:ByteArray}:∀ x∈List.replicate 131072 (loI a),x=loI a:=fun x hx=>(List.mem_replicate.1 hx).2
theorem loF_small (a:ByteArray):Small (loF a):=by
 have hl:(List.replicate 131072 (loI a)).length=131072:=List.length_replicate
 refine ⟨(show (1:Nat) < 2 ^ 20 by decide),fun f hf=>?_,fun f hf=>?_,fun f hf b hb=>?_,fun f hf b hb x hx=>?_,fun f hf b hb x hx=>?_⟩ <;> (obtain rfl:=List.mem_singleton.1 hf)
 ·exact (show (0:Nat) < 2 ^ 20 by decide)
 ·exact (show (1:Nat) < 2 ^ 20 by decide)
 ·obtain rfl:=List.mem_singleton.1 hb
  show (List.replicate 131072 (loI a)).length < _
  rw [hl];decide
 ·obtain rfl:=List.mem_singleton.1 hb;rw [loF_x x hx];exact (show (0:Nat) < 2 ^ 20 by decide)
 ·obtain rfl:=List.mem_singleton.1 hb;rw [loF_x x hx];exact (show (0:Nat) < 2 ^ 20 by decide)
theorem loF_2 {a:ByteArray} (h:bnB (bnA (shp 14) (loI a)) (shp 14) (loI a)=false):firstN (loF a) 2=none:=by
 show srch bnF (loF a) 0=none
 refine srch_none.2 fun i f hf=>?_
 have hf':=List.mem_of_getElem? hf
 obtain rfl:=List.mem_singleton.1 hf'
 have e1:(!isName (B1 102) || ([]:List ByteArray).any fun s=>!isName s)=false:=by decide
 unfold bnF
 rw [e1]
 simp only [Bool.false_eq_true,if_false]
 refine srch_none.2 fun j b hb=>?_
 obtain rfl:=List.mem_singleton.1 (List.mem_of_getElem? hb)
 have e2:(!isName (B1 97))=false:=by decide
 unfold bnBk
 rw [e2]
 simp only [Bool.false_eq_true,if_false]
 refine srch_none.2 fun k x hx=>?_
 rw [loF_x x (List.mem_of_getElem? hx)]
 have h':bnB (bnA (shp (loI a).op) (loI a)) (shp (loI a).op) (loI a)=false:=h
 unfold bnI
 rw [h']
 rfl
theorem loF_9 {a:ByteArray} (h:biG (loI a)=false):firstN (loF a) 9=none:=by
 show gSrch (fun _=>fun _ _ _ x=>biG x) (loF a)=none
 refine srch_none.2 fun i f hf=>?_
 obtain rfl:=List.mem_singleton.1 (List.mem_of_getElem? hf)
 refine srch_none.2 fun j b hb=>?_
 obtain rfl:=List.mem_singleton.1 (List.mem_of_getElem? hb)
 refine srch_none.2 fun k x hx=>?_
 rw [loF_x x (List.mem_of_getElem? hx)]
 unfold giI
 simp only [h,Bool.false_eq_true,if_false]
theorem loF_sm {a:ByteArray} (h:insSm (loI a)=true):∀ f∈loF a,SmF f:=by
 intro f hf
 obtain rfl:=List.mem_singleton.1 hf
 refine ⟨(show (1:Nat)≤200 by decide),(show (0:Nat)≤20 by decide),(fun s hs=>by cases hs),fun b hb=>?_,(show (1:Nat) < 2 ^ 62 by decide)⟩
 obtain rfl:=List.mem_singleton.1 hb
 refine ⟨(show (1:Nat)≤200 by decide),fun x hx=>?_,?_⟩
 ·rw [loF_x x hx];exact insSm_of h
 ·show (List.replicate 131072 (loI a)).length < _
  rw [List.length_replicate];decide
theorem codeT_rep (n:Nat) (x:InsD):(codeT (List.replicate n x)).length=n * (lnI x).data.toList.length:=by
 unfold codeT
 induction n with
 | zero=>simp
 | succ n ih=>rw [List.replicate_succ,List.flatMap_cons,List.length_append,ih,Nat.succ_mul];omega
theorem loF_len (a:ByteArray):(progT (loF a)).length=16+131072 * (lnI (loI a)).data.toList.length:=by
 have h:=codeT_rep 131072 (loI a)
 have e:progT (loF a)=(lnF ⟨B1 102,[],[⟨B1 97,List.replicate 131072 (loI a)⟩]⟩).data.toList ++ (((lnB ⟨B1 97,List.replicate 131072 (loI a)⟩).data.toList ++ codeT (List.replicate 131072 (loI a))) ++ []) ++ lnE.data.toList ++ []:=rfl
 have e1:(lnF ⟨B1 102,[],[⟨B1 97,List.replicate 131072 (loI a)⟩]⟩).data.toList=(lnF ⟨B1 102,[],[]⟩).data.toList:=rfl
 have e2:(lnB ⟨B1 97,List.replicate 131072 (loI a)⟩).data.toList=(lnB ⟨B1 97,[]⟩).data.toList:=rfl
 rw [e,e1,e2]
 simp only [List.length_append,List.length_nil,h]
 have n1:(lnF ⟨B1 102,[],[]⟩).data.toList.length=11:=by decide
 have n2:(lnB ⟨B1 97,[]⟩).data.toList.length=3:=by decide
 have n3:lnE.data.toList.length=2:=by decide
 omega
theorem lnI_ret:(lnI (loI E0)).data.toList.length=6:=by decide
theorem lnI_xx:(lnI (loI ⟨#[120,120]⟩)).data.toList.length=9:=by decide
end Go.Proofs.YtngfpadeebpoeaaGreatDoor
set_option maxRecDepth 100000
namespace Go.Proofs.YtngfpadeebpoeaaGreatDoor
open Go.AM
def AllQ {α β:Type} (Q:α→β→Prop):List α→List β→Prop
 | [],[]=>True
 | a :: l,b :: m=>Q a b∧AllQ Q l m
 | _,_=>False
theorem AllQ.at {α β:Type} {Q:α→β→Prop}:∀ {l:List α} {m:List β},AllQ Q l m→∀ (i:Nat) (a:α) (b:β),l[i]?=some a→m[i]?=some b→Q a b
 | [],_,_,i,a,b,h,_=>by simp at h
 | _ :: _,[],_,i,a,b,_,h=>by simp at h
 | x :: l,y :: m,⟨h1,h2⟩,0,a,b,ha,hb=>by cases ha;cases hb;exact h1
 | x :: l,y :: m,⟨h1,h2⟩,i+1,a,b,ha,hb=>by
   rw [List.getElem?_cons_succ] at ha hb
   exact AllQ.at h2 i a b ha hb
theorem all_w {w:Nat} {R:List (List V)} (h:R.all (fun r=>r.length == w)=true):∀ r∈R,r.length=w:=fun r hr=>eq_of_beq (List.all_eq_true.1 h r hr)
theorem getC_at {A L:Heap} {i:Nat} {c:List V} (h:L[i]?=some (.cells 0 c)):getC (A ++ L) (A.length+i) 0=some c:=by
 unfold getC
 rw [List.getElem?_append_right (by omega),Nat.add_sub_cancel_left,h]
 rfl
theorem app_set (A L:Heap) (i:Nat) (o:Ob):(A ++ L).set (A.length+i) o=A ++ L.set i o:=by
 rw [List.set_append_right _ _ (by omega),Nat.add_sub_cancel_left]
theorem rd_two {H:Heap} {id:Nat} {x y:V} (h:getC H id 0=some [x,y]):Rd H (.sl id 0 0 2 1) [x,y]:=Rd.sl h (off:=0) (n:=2) (Nat.le_refl 2)
theorem rd_one1 {H:Heap} {id:Nat} {x:V} (h:getC H id 0=some [x]):Rd H (.sl id 0 0 1 1) [x]:=Rd.sl h (off:=0) (n:=1) (Nat.le_refl 1)
def knRows (a:Nat):List (List V):=[insC ⟨1,B1 120,E0,E0,2,E0,[],[]⟩ nilS nilS,insC ⟨2,B1 109,E0,E0,64,E0,[],[]⟩ nilS nilS,insC ⟨3,B1 122,E0,E0,0,E0,[],[]⟩ nilS nilS,insC ⟨4,B1 102,E0,E0,0,kfMain,[],[]⟩ nilS nilS,insC ⟨5,B1 99,kNull,E0,0,E0,[],[]⟩ nilS nilS,insC ⟨6,B1 104,E0,E0,0,E0,[B1 120,kNull],[B1 97,B1 98]⟩ (.sl a 0 0 2 1) (.sl (a+1) 0 0 2 1),insC ⟨7,B1 100,B1 120,E0,10,E0,[],[]⟩ nilS nilS,insC ⟨8,B1 108,B1 100,E0,0,E0,[],[]⟩ nilS nilS,insC ⟨9,E0,B1 120,kNull,0,E0,[],[]⟩ nilS nilS,insC ⟨10,B1 114,E0,E0,0,B1 103,[B1 120,B1 121],[]⟩ (.sl (a+2) 0 0 2 1) nilS,insC ⟨10,E0,E0,E0,0,B1 103,[],[]⟩ nilS nilS,insC ⟨11,B1 105,B1 102,E0,0,E0,[kNull],[]⟩ (.sl (a+3) 0 0 1 1) nilS,insC ⟨11,E0,B1 102,E0,0,E0,[],[]⟩ nilS nilS,insC ⟨12,E0,E0,E0,0,E0,[],[B1 97,B1 98]⟩ nilS (.sl (a+4) 0 0 2 1),insC ⟨13,E0,E0,E0,0,E0,[],[B1 97]⟩ nilS (.sl (a+5) 0 0 1 1),insC ⟨14,E0,B1 120,E0,0,E0,[],[]⟩ nilS nilS,insC ⟨14,E0,E0,E0,0,E0,[],[]⟩ nilS nilS]
def kO (a:Nat):Heap:=[.cells 0 [.s (.string ⟨#[120]⟩),.s (.string ⟨#[110,117,108,108]⟩)],.cells 0 [.s (.string ⟨#[97]⟩),.s (.string ⟨#[98]⟩)],.cells 0 [.s (.string ⟨#[120]⟩),.s (.string ⟨#[121]⟩)],.cells 0 [.s (.string ⟨#[110,117,108,108]⟩)],.cells 0 [.s (.string ⟨#[97]⟩),.s (.string ⟨#[98]⟩)],.cells 0 [.s (.string ⟨#[97]⟩)],.cells 0 (knRows a).flatten,.cells 0 [.s (.string ⟨#[97]⟩),.sl (a+6) 0 0 17 8,.s (.string ⟨#[98]⟩),.s (.slice none 0 0)],.cells 0 [.s (.string ⟨#[112]⟩)],.cells 0 [.s (.string ⟨#[109,97,105,110]⟩),.s (.slice none 0 0),.sl (a+7) 0 0 2 2,.s (.string ⟨#[103]⟩),.sl (a+8) 0 0 1 1,.s (.slice none 0 0)],.cells 0 [.sl (a+9) 0 0 2 3]]
def kO2 (a:Nat):Heap:=[.cells 0 [.s (.string ⟨#[49]⟩),.s (.slice none 0 0),.s (.slice none 0 0)],.cells 0 [.s (.string ⟨#[110,117,108,108]⟩),.s (.slice none 0 0),.s (.slice none 0 0)],.cells 0 [.s (.string ⟨#[]⟩)],.cells 0 [.s (.string ⟨#[102]⟩),.sl (a+2) 0 0 1 1,.s (.slice none 0 0)],.cells 0 [.s (.string ⟨#[]⟩),.s (.slice none 0 0)],.cells 0 [.s (.string ⟨#[102]⟩),.s (.slice none 0 0),.sl (a+4) 0 0 1 2]]
theorem knF_rd {A B:Heap} (h:Ext (A ++ kO A.length) B):RdProg B (.sl (A.length+9) 0 0 2 3) knF:=by
 have g:∀ i c,(kO A.length)[i]?=some (.cells 0 c)→getC B (A.length+i) 0=some c:=fun i c hc=>getC_ext (getC_at hc) h
 have g0:=g 0 _ rfl
 have g1:=g 1 _ rfl
 have g2:=g 2 _ rfl
 have g3:=g 3 _ rfl
 have g4:=g 4 _ rfl
 have g5:=g 5 _ rfl
 have g6:=g 6 _ rfl
 have g7:=g 7 _ rfl
 have g8:=g 8 _ rfl
 have g9:=g 9 _ rfl
 rw [Nat.add_zero] at g0
 have code:RdL 8 RdIns B (.sl (A.length+6) 0 0 17 8) knI:=rdl_sl (R:=knRows A.length) g6 (all_w rfl) rfl rfl (by decide) (AllQ.at ⟨rdI_plain _ rfl rfl,rdI_plain _ rfl rfl,rdI_plain _ rfl rfl,rdI_plain _ rfl rfl,rdI_plain _ rfl rfl,⟨.sl A.length 0 0 2 1,.sl (A.length+1) 0 0 2 1,rfl,rd_two g0,by first | trivial | rfl,rd_two g1,by first | trivial | rfl,Nat.lt_of_le_of_lt (show _≤2 by decide) (by decide),Nat.lt_of_le_of_lt (show _≤2 by decide) (by decide)⟩,rdI_plain _ rfl rfl,rdI_plain _ rfl rfl,rdI_plain _ rfl rfl,⟨.sl (A.length+2) 0 0 2 1,nilS,rfl,rd_two g2,by first | trivial | rfl,Rd.nil _,trivial,Nat.lt_of_le_of_lt (show _≤2 by decide) (by decide),Nat.lt_of_le_of_lt (show _≤2 by decide) (by decide)⟩,rdI_plain _ rfl rfl,⟨.sl (A.length+3) 0 0 1 1,nilS,rfl,rd_one1 g3,by first | trivial | rfl,Rd.nil _,trivial,Nat.lt_of_le_of_lt (show _≤2 by decide) (by decide),Nat.lt_of_le_of_lt (show _≤2 by decide) (by decide)⟩,rdI_plain _ rfl rfl,⟨nilS,.sl (A.length+4) 0 0 2 1,rfl,Rd.nil _,trivial,rd_two g4,by first | trivial | rfl,Nat.lt_of_le_of_lt (show _≤2 by decide) (by decide),Nat.lt_of_le_of_lt (show _≤2 by decide) (by decide)⟩,⟨nilS,.sl (A.length+5) 0 0 1 1,rfl,Rd.nil _,trivial,rd_one1 g5,by first | trivial | rfl,Nat.lt_of_le_of_lt (show _≤2 by decide) (by decide),Nat.lt_of_le_of_lt (show _≤2 by decide) (by decide)⟩,rdI_plain _ rfl rfl,rdI_plain _ rfl rfl,trivial⟩)
 have blks:RdL 2 RdBlk B (.sl (A.length+7) 0 0 2 2) [⟨B1 97,knI⟩,⟨B1 98,[]⟩]:=rdl_sl (R:=[[Sb (B1 97),.sl (A.length+6) 0 0 17 8],[Sb (B1 98),nilS]]) g7 (all_w rfl) rfl rfl (by decide) (AllQ.at ⟨⟨_,rfl,code⟩,⟨_,rfl,rdl_nil _ _ _⟩,trivial⟩)
 exact rdl_sl (R:=[[Sb kfMain,nilS,.sl (A.length+7) 0 0 2 2],[Sb (B1 103),.sl (A.length+8) 0 0 1 1,nilS]]) g9 (all_w rfl) rfl rfl (by decide) (AllQ.at ⟨⟨_,_,rfl,Rd.nil _,trivial,Nat.two_pow_pos 63,blks⟩,⟨_,_,rfl,rd_one1 g8,by first | trivial | rfl,by decide,rdl_nil _ _ _⟩,trivial⟩)
theorem noP_rd {A B:Heap} (h:Ext (A ++ kO2 A.length) B):RdProg B (.sl A.length 0 0 1 3) [⟨B1 49,[],[]⟩]∧RdProg B (.sl (A.length+1) 0 0 1 3) [⟨kNull,[],[]⟩]∧RdProg B (.sl (A.length+3) 0 0 1 3) [⟨B1 102,[E0],[]⟩]∧RdProg B (.sl (A.length+5) 0 0 1 3) [⟨B1 102,[],[⟨E0,[]⟩]⟩]:=by
 have g:∀ i c,(kO2 A.length)[i]?=some (.cells 0 c)→getC B (A.length+i) 0=some c:=fun i c hc=>getC_ext (getC_at hc) h
 have g0:=g 0 _ rfl
 have g1:=g 1 _ rfl
 have g2:=g 2 _ rfl
 have g3:=g 3 _ rfl
 have g4:=g 4 _ rfl
 have g5:=g 5 _ rfl
 rw [Nat.add_zero] at g0
 refine ⟨?_,?_,?_,?_⟩
 ·exact rdP_fun (nm:=B1 49) (ps:=[]) g0 (Rd.nil _) trivial (by decide) (rdl_nil _ _ _)
 ·exact rdP_fun (nm:=kNull) (ps:=[]) g1 (Rd.nil _) trivial (by decide) (rdl_nil _ _ _)
 ·exact rdP_fun (nm:=B1 102) (ps:=[E0]) g3 (rd_one1 g2) (by first | trivial | rfl) (by decide) (rdl_nil _ _ _)
 ·exact rdP_fun (nm:=B1 102) (ps:=[]) g5 (Rd.nil _) trivial (by decide) (rdl_one (P:=RdBlk) g4 rfl ⟨_,rfl,rdl_nil _ _ _⟩)
section
variable {CT:Nat→Option CFun}
theorem kn_l0 (h:PriT CT) (base:Nat) {A:Heap} (hb:base≤A.length) {m:Nat} {fvs:List V} (hg:getC A m 0=some fvs) (hn:fvs.length=10) (hR:∀ (k:Nat) (fv:V),fvs[k]?=some fv→∃ fs,RdProg A fv fs∧Small fs∧((firstN fs 2).isSome=true∨(firstN fs 9).isSome=true)):
 ∃ D,itW (evC (callW CT) itW base s_f5_l0) [] A.length (frOf 191 [(6,.sl m 0 0 10 1),(7,Iz 0)]) A=some (.ext 0,frOf 191 [(6,.sl m 0 0 10 1),(7,Iz 10),(101,bl false)],D)∧Ext A D:=by
 obtain ⟨C,e1,a1⟩:=it_rel 10 (fun _ (C:Heap)=>Ext A C) (fun k C=>itW (evC (callW CT) itW base s_f5_l0) [] A.length (frOf 191 [(6,.sl m 0 0 10 1),(7,Iz k)]) C) (by
  intro k C hk hE
  have hlt1:((k:Int) < ((10:Nat):Int)):=by omega
  have hlt2:((k:Int) < 10):=by omega
  have hwk:=w64 (n:=k) (by omega)
  have hk2:fvs[k]?=some fvs[k]:=List.getElem?_eq_getElem (by omega)
  obtain ⟨fs,r1,r2,r3⟩:=hR k _ hk2
  have r1':=r1.ext hE
  have hfo:=r1'.one
  obtain ⟨H1,hp,hE1⟩:=print_bad h base (A:=C) (by have:=hE.le;omega) r1' r2 r3
  have hidx:xIndexAddr 1 (.sl m 0 0 10 1) (.s (.int .i64 (k:Int)))=some (.ref m 0 k):=by
   rw [xi_sl,if_pos ⟨by omega,by omega,rfl⟩,Int.toNat_natCast,Nat.zero_add,Nat.mul_one]
  have hld:xLoad C true 1 (.ref m 0 k)=some (.agg [fvs[k]]):=by
   have e:(fvs.drop k).take 1=[fvs[k]]:=by rw [List.drop_eq_getElem_cons (by omega)];rfl
   rw [xo_ref,getC_ext hg hE]
   show (if ((fvs.drop k).take 1).length=1 then shut true ((fvs.drop k).take 1) else none)=_
   rw [e]
   rfl
  have hz:((⟨#[]⟩:ByteArray).data.toList == (⟨#[]⟩:ByteArray).data.toList)=true:=by decide
  refine ⟨_,?_,(hE.trans hE1).trim (Nat.le_refl _) (frOf 191 [(6,.sl m 0 0 10 1),(7,Iz (k+1:Nat))])⟩
  have hbC:base≤C.length:=by have:=hE.le;omega
  simp only [Sb,Iz] at hp
  rw [itW_step]
  simp only [Iz,Sb,bl,a_f5,s_f5_l0_b,s_f5_l1_b,s_f5_l2_b,aa,reduceIte,reduceCtorEq,Nat.reduceEqDiff,Nat.reduceLT,Nat.reduceLeDiff,Nat.reduceBEq,Nat.reduceAdd,Nat.reduceMul,op_appR,hlt1,hlt2,hbC,hidx,hld,hp,hz,hwk]) 0 A (Nat.zero_le _) (Ext.refl A)
 rw [cast0] at e1
 refine ⟨_,e1.trans ?_,a1.trim (Nat.le_refl _) (frOf 191 [(6,.sl m 0 0 10 1),(7,Iz 10),(101,bl false)])⟩
 rw [itW_step]
 have e:((10:Nat):Int)=10:=rfl
 simp only [Iz,bl,e,a_f5,s_f5_l0_b,s_f5_l1_b,s_f5_l2_b,aa,reduceIte,reduceCtorEq,Nat.reduceEqDiff,Nat.reduceLT,Nat.reduceLeDiff,Nat.reduceBEq,Nat.reduceAdd,Nat.reduceMul,op_appR,Int.lt_irrefl]
end
end Go.Proofs.YtngfpadeebpoeaaGreatDoor
set_option maxRecDepth 100000
namespace Go.Proofs.YtngfpadeebpoeaaGreatDoor
open Go.AM
theorem loF_rd {H:Heap} {a:ByteArray} {r1 r0:List V} {p q m:Nat} (h0:r0.length=8) (hm:getC H m 0=some (rowsK 131072 131072 r1 r0).flatten) (hr:r1=insC (loI a) nilS nilS) (hq:getC H q 0=some [Sb (B1 97),.sl m 0 0 131072 8]) (hf:getC H p 0=some [Sb (B1 102),nilS,.sl q 0 0 1 2]):RdProg H (.sl p 0 0 1 3) (loF a):=by
 have hw:=rowsK_mem (N:=131072) (k:=131072) (w:=8) (r1:=r1) (by rw [hr];rfl) h0
 refine rdP_fun (nm:=B1 102) (ps:=[]) hf (Rd.nil _) trivial (Nat.two_pow_pos 63) (rdl_one (P:=RdBlk) hq rfl ⟨_,rfl,rdl_sl (R:=rowsK 131072 131072 r1 r0) hm hw (rowsK_len (Nat.le_refl _) _ _) List.length_replicate (by decide) fun i r x hr' hx=>?_⟩)
 rw [loF_x x (List.mem_of_getElem? hx)]
 have h1:r=r1:=by
  rcases List.mem_append.1 (List.mem_of_getElem? hr') with h | h
  ·exact (List.mem_replicate.1 h).2
  ·rw [Nat.sub_self] at h;cases h
 rw [h1,hr]
 exact rdI_plain _ rfl rfl
theorem set_same {H:Heap} {m:Nat} {c:List V} (h:getC H m 0=some c):H.set m (.cells 0 c)=H:=by
 have hm:=getC_lt h
 have:H[m]?=some (.cells 0 c):=by
  unfold getC at h
  split at h <;> simp_all
 rw [List.getElem?_eq_getElem hm] at this
 rw [← Option.some.inj this]
 exact List.set_getElem_self hm
theorem rowsK_turn {N:Nat} (a b c:List V):rowsK N N a b=rowsK N 0 c a:=by
 simp [rowsK]
theorem getC_other {H:Heap} {i m:Nat} {c:List V} {o:Ob} (h:getC H i 0=some c) (hm:i≠m):getC (H.set m o) i 0=some c:=by
 unfold getC at h ⊢
 rw [List.getElem?_set_ne (Ne.symm hm)]
 exact h
theorem getC_here {H:Heap} {m:Nat} {c:List V} (h:m < H.length):getC (H.set m (.cells 0 c)) m 0=some c:=by
 unfold getC
 rw [List.getElem?_set_self h]
 rfl
def knText:ByteArray:=⟨#[102,117,110,99,32,109,97,105,110,40,41,32,123,10,97,58,10,32,32,120,32,61,32,97,108,108,111,99,97,32,50,10,32,32,109,32,61,32,109,97,108,108,111,99,32,54,52,10,32,32,122,32,61,32,110,117,108,108,10,32,32,102,32,61,32,97,100,100,114,32,109,97,105,110,10,32,32,99,32,61,32,99,111,112,121,32,110,117,108,108,10,32,32,104,32,61,32,112,104,105,32,91,97,58,32,120,44,32,98,58,32,110,117,108,108,93,10,32,32,100,32,61,32,102,105,101,108,100,32,120,32,49,48,10,32,32,108,32,61,32,108,111,97,100,32,100,10,32,32,115,116,111,114,101,32,120,44,32,110,117,108,108,10,32,32,114,32,61,32,99,97,108,108,32,103,40,120,44,32,121,41,10,32,32,99,97,108,108,32,103,40,41,10,32,32,105,32,61,32,105,99,97,108,108,32,102,40,110,117,108,108,41,10,32,32,105,99,97,108,108,32,102,40,41,10,32,32,98,114,32,97,32,98,10,32,32,103,111,116,111,32,97,10,32,32,114,101,116,32,120,10,32,32,114,101,116,10,98,58,10,125,10,102,117,110,99,32,103,40,112,41,32,123,10,125,10]⟩
theorem knText_eq:((⟨(progT knF).toArray⟩:ByteArray).data.toList == knText.data.toList)=true:=by decide +kernel
theorem knF_len:¬ 1048576 < (progT knF).length:=by decide +kernel
section
variable {CT:Nat→Option CFun}
set_option maxHeartbeats 4000000 in
theorem known_law (h:PriT CT) (htl:CT k_f8=some (.code s_f8)) (h1:CT k_f13=some (.code s_f13)) (hT:CT k_f5=some (.code s_f5)) (base:Nat) {A:Heap} (hb:base≤A.length):
 ∃ H',callW CT (.fn k_f5 [] []) [] base A=some (.s (.bool true),H'):=by
 obtain ⟨P1,hP1⟩:∃ X,A ++ [Ob.cells 0 [.s (.string ⟨#[120]⟩),.s (.string ⟨#[110,117,108,108]⟩)]]=X:=⟨_,rfl⟩
 have lP1:P1.length=A.length+1:=by rw [← hP1,len_snoc]
 obtain ⟨P2,hP2⟩:∃ X,P1 ++ [Ob.cells 0 [.s (.string ⟨#[97]⟩),.s (.string ⟨#[98]⟩)]]=X:=⟨_,rfl⟩
 have lP2:P2.length=A.length+2:=by rw [← hP2,len_snoc,lP1]
 obtain ⟨P3,hP3⟩:∃ X,P2 ++ [Ob.cells 0 [.s (.string ⟨#[120]⟩),.s (.string ⟨#[121]⟩)]]=X:=⟨_,rfl⟩
 have lP3:P3.length=A.length+3:=by rw [← hP3,len_snoc,lP2]
 obtain ⟨P4,hP4⟩:∃ X,P3 ++ [Ob.cells 0 [.s (.string ⟨#[110,117,108,108]⟩)]]=X:=⟨_,rfl⟩
 have lP4:P4.length=A.length+4:=by rw [← hP4,len_snoc,lP3]
 obtain ⟨P5,hP5⟩:∃ X,P4 ++ [Ob.cells 0 [.s (.string ⟨#[97]⟩),.s (.string ⟨#[98]⟩)]]=X:=⟨_,rfl⟩
 have lP5:P5.length=A.length+5:=by rw [← hP5,len_snoc,lP4]
 obtain ⟨P6,hP6⟩:∃ X,P5 ++ [Ob.cells 0 [.s (.string ⟨#[97]⟩)]]=X:=⟨_,rfl⟩
 have lP6:P6.length=A.length+6:=by rw [← hP6,len_snoc,lP5]
 obtain ⟨P7,hP7⟩:∃ X,P6 ++ [Ob.cells 0 ((V.s (.int .u8 1)) :: (V.s (.string ⟨#[120]⟩)) :: (V.s (.string ⟨#[]⟩)) :: (V.s (.string ⟨#[]⟩)) :: (V.s (.int .i64 2)) :: (V.s (.string ⟨#[]⟩)) :: (V.s (.slice none 0 0)) :: (V.s (.slice none 0 0)) :: (V.s (.int .u8 2)) :: (V.s (.string ⟨#[109]⟩)) :: (V.s (.string ⟨#[]⟩)) :: (V.s (.string ⟨#[]⟩)) :: (V.s (.int .i64 64)) :: (V.s (.string ⟨#[]⟩)) :: (V.s (.slice none 0 0)) :: (V.s (.slice none 0 0)) :: (V.s (.int .u8 3)) :: (V.s (.string ⟨#[122]⟩)) :: (V.s (.string ⟨#[]⟩)) :: (V.s (.string ⟨#[]⟩)) :: (V.s (.int .i64 0)) :: (V.s (.string ⟨#[]⟩)) :: (V.s (.slice none 0 0)) :: (V.s (.slice none 0 0)) :: (V.s (.int .u8 4)) :: (V.s (.string ⟨#[102]⟩)) :: (V.s (.string ⟨#[]⟩)) :: (V.s (.string ⟨#[]⟩)) :: (V.s (.int .i64 0)) :: (V.s (.string ⟨#[109,97,105,110]⟩)) :: (V.s (.slice none 0 0)) :: (V.s (.slice none 0 0)) :: (V.s (.int .u8 5)) :: (V.s (.string ⟨#[99]⟩)) :: (V.s (.string ⟨#[110,117,108,108]⟩)) :: (V.s (.string ⟨#[]⟩)) :: (V.s (.int .i64 0)) :: (V.s (.string ⟨#[]⟩)) :: (V.s (.slice none 0 0)) :: (V.s (.slice none 0 0)) :: (V.s (.int .u8 6)) :: (V.s (.string ⟨#[104]⟩)) :: (V.s (.string ⟨#[]⟩)) :: (V.s (.string ⟨#[]⟩)) :: (V.s (.int .i64 0)) :: (V.s (.string ⟨#[]⟩)) :: (V.sl A.length 0 0 2 1) :: (V.sl (A.length+1) 0 0 2 1) :: (V.s (.int .u8 7)) :: (V.s (.string ⟨#[100]⟩)) :: (V.s (.string ⟨#[120]⟩)) :: (V.s (.string ⟨#[]⟩)) :: (V.s (.int .i64 10)) :: (V.s (.string ⟨#[]⟩)) :: (V.s (.slice none 0 0)) :: (V.s (.slice none 0 0)) :: (V.s (.int .u8 8)) :: (V.s (.string ⟨#[108]⟩)) :: (V.s (.string ⟨#[100]⟩)) :: (V.s (.string ⟨#[]⟩)) :: (V.s (.int .i64 0)) :: (V.s (.string ⟨#[]⟩)) :: (V.s (.slice none 0 0)) :: (V.s (.slice none 0 0)) :: (V.s (.int .u8 9)) :: (V.s (.string ⟨#[]⟩)) :: (V.s (.string ⟨#[120]⟩)) :: (V.s (.string ⟨#[110,117,108,108]⟩)) :: (V.s (.int .i64 0)) :: (V.s (.string ⟨#[]⟩)) :: (V.s (.slice none 0 0)) :: (V.s (.slice none 0 0)) :: (V.s (.int .u8 10)) :: (V.s (.string ⟨#[114]⟩)) :: (V.s (.string ⟨#[]⟩)) :: (V.s (.string ⟨#[]⟩)) :: (V.s (.int .i64 0)) :: (V.s (.string ⟨#[103]⟩)) :: (V.sl (A.length+2) 0 0 2 1) :: (V.s (.slice none 0 0)) :: (V.s (.int .u8 10)) :: (V.s (.string ⟨#[]⟩)) :: (V.s (.string ⟨#[]⟩)) :: (V.s (.string ⟨#[]⟩)) :: (V.s (.int .i64 0)) :: (V.s (.string ⟨#[103]⟩)) :: (V.s (.slice none 0 0)) :: (V.s (.slice none 0 0)) :: (V.s (.int .u8 11)) :: (V.s (.string ⟨#[105]⟩)) :: (V.s (.string ⟨#[102]⟩)) :: (V.s (.string ⟨#[]⟩)) :: (V.s (.int .i64 0)) :: (V.s (.string ⟨#[]⟩)) :: (V.sl (A.length+3) 0 0 1 1) :: (V.s (.slice none 0 0)) :: (V.s (.int .u8 11)) :: (V.s (.string ⟨#[]⟩)) :: (V.s (.string ⟨#[102]⟩)) :: (V.s (.string ⟨#[]⟩)) :: (V.s (.int .i64 0)) :: (V.s (.string ⟨#[]⟩)) :: (V.s (.slice none 0 0)) :: (V.s (.slice none 0 0)) :: (V.s (.int .u8 12)) :: (V.s (.string ⟨#[]⟩)) :: (V.s (.string ⟨#[]⟩)) :: (V.s (.string ⟨#[]⟩)) :: (V.s (.int .i64 0)) :: (V.s (.string ⟨#[]⟩)) :: (V.s (.slice none 0 0)) :: (V.sl (A.length+4) 0 0 2 1) :: (V.s (.int .u8 13)) :: (V.s (.string ⟨#[]⟩)) :: (V.s (.string ⟨#[]⟩)) :: (V.s (.string ⟨#[]⟩)) :: (V.s (.int .i64 0)) :: (V.s (.string ⟨#[]⟩)) :: (V.s (.slice none 0 0)) :: (V.sl (A.length+5) 0 0 1 1) :: (V.s (.int .u8 14)) :: (V.s (.string ⟨#[]⟩)) :: (V.s (.string ⟨#[120]⟩)) :: (V.s (.string ⟨#[]⟩)) :: (V.s (.int .i64 0)) :: (V.s (.string ⟨#[]⟩)) :: (V.s (.slice none 0 0)) :: (V.s (.slice none 0 0)) :: (V.s (.int .u8 14)) :: (V.s (.string ⟨#[]⟩)) :: (V.s (.string ⟨#[]⟩)) :: (V.s (.string ⟨#[]⟩)) :: (V.s (.int .i64 0)) :: (V.s (.string ⟨#[]⟩)) :: (V.s (.slice none 0 0)) :: (V.s (.slice none 0 0)) :: [])]=X:=⟨_,rfl⟩
 have lP7:P7.length=A.length+7:=by rw [← hP7,len_snoc,lP6]
 obtain ⟨P8,hP8⟩:∃ X,P7 ++ [Ob.cells 0 [.s (.string ⟨#[97]⟩),.sl (A.length+6) 0 0 17 8,.s (.string ⟨#[98]⟩),.s (.slice none 0 0)]]=X:=⟨_,rfl⟩
 have lP8:P8.length=A.length+8:=by rw [← hP8,len_snoc,lP7]
 obtain ⟨P9,hP9⟩:∃ X,P8 ++ [Ob.cells 0 [.s (.string ⟨#[112]⟩)]]=X:=⟨_,rfl⟩
 have lP9:P9.length=A.length+9:=by rw [← hP9,len_snoc,lP8]
 obtain ⟨P10,hP10⟩:∃ X,P9 ++ [Ob.cells 0 [.s (.string ⟨#[109,97,105,110]⟩),.s (.slice none 0 0),.sl (A.length+7) 0 0 2 2,.s (.string ⟨#[103]⟩),.sl (A.length+8) 0 0 1 1,.s (.slice none 0 0)]]=X:=⟨_,rfl⟩
 have lP10:P10.length=A.length+10:=by rw [← hP10,len_snoc,lP9]
 obtain ⟨P11,hP11⟩:∃ X,P10 ++ [Ob.cells 0 [.s (.slice none 0 0)]]=X:=⟨_,rfl⟩
 have lP11:P11.length=A.length+11:=by rw [← hP11,len_snoc,lP10]
 obtain ⟨P,hP⟩:∃ P,A ++ kO A.length=P:=⟨_,rfl⟩
 have hPf:P11.set (A.length+10) (.cells 0 [.sl (A.length+9) 0 0 2 3])=P:=by
  rw [← hP,← hP11,← hP10,← hP9,← hP8,← hP7,← hP6,← hP5,← hP4,← hP3,← hP2,← hP1]
  simp only [List.append_assoc]
  rw [app_set]
  rfl
 have gP:getC P11 (A.length+10) 0=some [.s (.slice none 0 0)]:=by rw [← lP10,← hP11];exact getC_new P10 0 _
 have lP:P.length=A.length+11:=by rw [← hPf,List.length_set,lP11]
 have ldP:xLoad P true 1 (.ref (A.length+10) 0 0)=some (.agg [.sl (A.length+9) 0 0 2 3]):=by
  rw [xo_ref,← hPf,getC_here (by omega)]
  rfl
 have rP:RdProg P (.sl (A.length+9) 0 0 2 3) knF:=by rw [← hP];exact knF_rd (Ext.refl _)
 obtain ⟨B,p1,eB⟩:=print_ok h base (A:=P) (by omega) rP knF_small knF_2 knF_9 knF_sm (by have:=knF_len;omega)
 rw [if_neg knF_len] at p1
 have hz1:=knText_eq
 obtain ⟨tK,htK⟩:∃ t:ByteArray,(⟨(progT knF).toArray⟩:ByteArray)=t:=⟨_,rfl⟩
 rw [htK] at p1 hz1
 have lB:A.length≤B.length:=by have:=eB.le;omega
 have hbB:base≤B.length:=by omega
 obtain ⟨Q1,hQ1⟩:∃ X,B ++ [Ob.cells 0 [.s (.string ⟨#[49]⟩),.s (.slice none 0 0),.s (.slice none 0 0)]]=X:=⟨_,rfl⟩
 have lQ1:Q1.length=B.length+1:=by rw [← hQ1,len_snoc]
 obtain ⟨Q2,hQ2⟩:∃ X,Q1 ++ [Ob.cells 0 [.s (.string ⟨#[110,117,108,108]⟩),.s (.slice none 0 0),.s (.slice none 0 0)]]=X:=⟨_,rfl⟩
 have lQ2:Q2.length=B.length+2:=by rw [← hQ2,len_snoc,lQ1]
 obtain ⟨Q3,hQ3⟩:∃ X,Q2 ++ [Ob.cells 0 [.s (.string ⟨#[]⟩)]]=X:=⟨_,rfl⟩
 have lQ3:Q3.length=B.length+3:=by rw [← hQ3,len_snoc,lQ2]
 obtain ⟨Q4,hQ4⟩:∃ X,Q3 ++ [Ob.cells 0 [.s (.string ⟨#[102]⟩),.sl (B.length+2) 0 0 1 1,.s (.slice none 0 0)]]=X:=⟨_,rfl⟩
 have lQ4:Q4.length=B.length+4:=by rw [← hQ4,len_snoc,lQ3]
 obtain ⟨Q5,hQ5⟩:∃ X,Q4 ++ [Ob.cells 0 [.s (.string ⟨#[]⟩),.s (.slice none 0 0)]]=X:=⟨_,rfl⟩
 have lQ5:Q5.length=B.length+5:=by rw [← hQ5,len_snoc,lQ4]
 obtain ⟨Q6,hQ6⟩:∃ X,Q5 ++ [Ob.cells 0 [.s (.string ⟨#[102]⟩),.s (.slice none 0 0),.sl (B.length+4) 0 0 1 2]]=X:=⟨_,rfl⟩
 have lQ6:Q6.length=B.length+6:=by rw [← hQ6,len_snoc,lQ5]
 have hQ:Q6=B ++ kO2 B.length:=by
  rw [← hQ6,← hQ5,← hQ4,← hQ3,← hQ2,← hQ1]
  simp only [List.append_assoc]
  rfl
 obtain ⟨v4,R4,o4,x4,d4⟩:=one_fun h1 base (A:=Q6) (by omega) (r:=insC ⟨0,E0,E0,E0,0,E0,[],[]⟩ nilS nilS) (rdI_plain _ rfl rfl)
 have y4:=x4.le
 obtain ⟨v5,R5,o5,x5,d5⟩:=one_fun h1 base (A:=R4) (by omega) (r:=insC ⟨14,E0,E0,B1 120,0,E0,[],[]⟩ nilS nilS) (rdI_plain _ rfl rfl)
 have y5:=x5.le
 obtain ⟨v6,R6,o6,x6,d6⟩:=one_fun h1 base (A:=R5) (by omega) (r:=insC ⟨5,B1 120,E0,E0,0,E0,[],[]⟩ nilS nilS) (rdI_plain _ rfl rfl)
 have y6:=x6.le
 obtain ⟨v7,R7,o7,x7,d7⟩:=one_fun h1 base (A:=R6) (by omega) (r:=insC ⟨1,B1 120,E0,E0,0,E0,[],[]⟩ nilS nilS) (rdI_plain _ rfl rfl)
 have y7:=x7.le
 obtain ⟨v8,R8,o8,x8,d8⟩:=one_fun h1 base (A:=R7) (by omega) (r:=insC ⟨5,kNull,B1 120,E0,0,E0,[],[]⟩ nilS nilS) (rdI_plain _ rfl rfl)
 have y8:=x8.le
 obtain ⟨Y,hY⟩:∃ X,R8 ++ [Ob.cells 0 [.s (.string ⟨#[121]⟩)]]=X:=⟨_,rfl⟩
 have eY:Ext R8 Y:=hY ▸ Ext.app _ _
 have lY:Y.length=R8.length+1:=by rw [← hY,len_snoc]
 have gY:getC Y R8.length 0=some [Sb (B1 121)]:=by rw [← hY];exact getC_new R8 0 _
 obtain ⟨v9,R9,o9,x9,d9⟩:=one_fun h1 base (A:=Y) (by omega) (r:=insC ⟨6,B1 120,E0,E0,0,E0,[B1 121],[]⟩ (.sl R8.length 0 0 1 1) nilS) ⟨_,_,rfl,rd_one1 gY,by first | trivial | rfl,Rd.nil _,trivial,by decide,by decide⟩
 have y9:=x9.le
 obtain ⟨C,hC⟩:∃ X,R9 ++ [Ob.cells 0 [.sl B.length 0 0 1 3,.sl (B.length+1) 0 0 1 3,.sl (B.length+3) 0 0 1 3,.sl (B.length+5) 0 0 1 3,v4,v5,v6,v7,v8,v9]]=X:=⟨_,rfl⟩
 have eC:Ext R9 C:=hC ▸ Ext.app _ _
 have lC:C.length=R9.length+1:=by rw [← hC,len_snoc]
 have q8:Ext R8 C:=eY.trans (x9.trans eC)
 have q7:Ext R7 C:=x8.trans q8
 have q6:Ext R6 C:=x7.trans q7
 have q5:Ext R5 C:=x6.trans q6
 have q4:Ext R4 C:=x5.trans q5
 obtain ⟨n0,n1,n2,n3⟩:=noP_rd (A:=B) (B:=C) (hQ ▸ x4.trans q4)
 have hall:AllQ (fun fv fs=>RdProg C fv fs) [.sl B.length 0 0 1 3,.sl (B.length+1) 0 0 1 3,.sl (B.length+3) 0 0 1 3,.sl (B.length+5) 0 0 1 3,v4,v5,v6,v7,v8,v9] noP:=
  ⟨n0,n1,n2,n3,d4.ext q4,d5.ext q5,d6.ext q6,d7.ext q7,d8.ext q8,d9.ext eC,trivial⟩
 obtain ⟨D0,hl0,eD0⟩:=kn_l0 h base (A:=C) (by omega) (m:=R9.length) (hC ▸ getC_new R9 0 _) rfl (fun k fv hk=>by
  have hk0:=(List.getElem?_eq_some_iff.1 hk).1
  have hk':k < noP.length:=hk0
  have hk2:noP[k]?=some (noP[k]'hk'):=List.getElem?_eq_getElem hk'
  exact ⟨_,AllQ.at hall k _ _ hk hk2,noP_bad _ (List.mem_of_getElem? hk2)⟩)
 have z0:=eD0.le
 rw [lC] at hl0
 obtain ⟨D1,p2,eD1⟩:=print_ok h base (A:=D0) (by omega) (rdl_nil 3 RdFun D0) (small_of (fs:=[]) (by decide) rfl) rfl rfl (fun f hf=>by cases hf) (by decide)
 rw [if_neg (by decide),show (⟨(progT []).toArray⟩:ByteArray)=⟨#[]⟩ from rfl] at p2
 have z1:=eD1.le
 obtain ⟨r0,hr0⟩:∃ r:List V,[.s (.int .u8 0),.s (.string ⟨#[]⟩),.s (.string ⟨#[]⟩),.s (.string ⟨#[]⟩),.s (.int .i64 0),.s (.string ⟨#[]⟩),.s (.slice none 0 0),.s (.slice none 0 0)]=r:=⟨_,rfl⟩
 obtain ⟨r1,hr1⟩:∃ r:List V,insC (loI E0) nilS nilS=r:=⟨_,rfl⟩
 obtain ⟨r2,hr2⟩:∃ r:List V,insC (loI ⟨#[120,120]⟩) nilS nilS=r:=⟨_,rfl⟩
 have w0:r0.length=8:=by rw [← hr0];rfl
 have w1:r1.length=8:=by rw [← hr1];rfl
 have s1:r1=r0.set 0 (.s (.int .u8 14)):=by rw [← hr1,← hr0];rfl
 have s2:r2=r1.set 2 (Sb ⟨#[120,120]⟩):=by rw [← hr2,← hr1];rfl
 obtain ⟨X0,hX0⟩:∃ X,(rowsK 131072 0 r1 r0).flatten=X:=⟨_,rfl⟩
 have hmk:makeV D1 [.s (.int .u8 0),.s (.string ⟨#[]⟩),.s (.string ⟨#[]⟩),.s (.string ⟨#[]⟩),.s (.int .i64 0),.s (.string ⟨#[]⟩),.s (.slice none 0 0),.s (.slice none 0 0)] 8 128 (.s (.int .i64 131072)) (.s (.int .i64 131072))=some (.sl D1.length 0 0 131072 8,D1 ++ [.cells 0 X0]):=by
  have e:=make_n (H:=D1) (zero:=r0) (sz:=8) (bytes:=128) (k:=.i64) (k':=.i64) (n:=131072) (by decide)
  have e2:(List.replicate 131072 r0).flatten=X0:=by rw [← hX0];unfold rowsK;rw [List.replicate_zero,List.nil_append,Nat.sub_zero]
  rw [e2] at e
  rw [hr0]
  exact e
 obtain ⟨M1,hM1⟩:∃ X,D1 ++ [Ob.cells 0 X0]=X:=⟨_,rfl⟩
 rw [hM1] at hmk
 have lM1:M1.length=D1.length+1:=by rw [← hM1,len_snoc]
 obtain ⟨M2,hM2⟩:∃ X,M1 ++ [Ob.cells 0 [.s (.string ⟨#[97]⟩),.sl D1.length 0 0 131072 8]]=X:=⟨_,rfl⟩
 have lM2:M2.length=D1.length+2:=by rw [← hM2,len_snoc,lM1]
 obtain ⟨M3,hM3⟩:∃ X,M2 ++ [Ob.cells 0 [.s (.string ⟨#[]⟩),.s (.slice none 0 0),.s (.slice none 0 0)]]=X:=⟨_,rfl⟩
 have lM3:M3.length=D1.length+3:=by rw [← hM3,len_snoc,lM2]
 have f1:Ext M1 M2:=hM2 ▸ Ext.app _ _
 have f2:Ext M2 M3:=hM3 ▸ Ext.app _ _
 have gM3:getC M3 (D1.length+2) 0=some [.s (.string ⟨#[]⟩),.s (.slice none 0 0),.s (.slice none 0 0)]:=by rw [← lM2,← hM3];exact getC_new M2 0 _
 obtain ⟨M,hM⟩:∃ X,M3.set (D1.length+2) (.cells 0 [.s (.string ⟨#[102]⟩),.s (.slice none 0 0),.sl (D1.length+1) 0 0 1 2])=X:=⟨_,rfl⟩
 have lM:M.length=D1.length+3:=by rw [← hM,List.length_set,lM3]
 have gm:getC M D1.length 0=some X0:=by
  rw [← hM]
  exact getC_other (getC_ext (hM1 ▸ getC_new D1 0 _) (f1.trans f2)) (by omega)
 have gq:getC M (D1.length+1) 0=some [.s (.string ⟨#[97]⟩),.sl D1.length 0 0 131072 8]:=by
  rw [← hM]
  exact getC_other (getC_ext (by rw [← lM1,← hM2];exact getC_new M1 0 _) f2) (by omega)
 have gp:getC M (D1.length+2) 0=some [.s (.string ⟨#[102]⟩),.s (.slice none 0 0),.sl (D1.length+1) 0 0 1 2]:=by
  rw [← hM]
  exact getC_here (by omega)
 have L1:=kn_l1 (CT:=CT) (v10:=Sb ⟨#[]⟩) (n11:=0) base gp gq (by omega) (by omega) (by omega) (by omega) w0 s1
 rw [hX0,set_same gm] at L1
 obtain ⟨N,hN⟩:∃ X,M.set D1.length (.cells 0 (rowsK 131072 131072 r1 r0).flatten)=X:=⟨_,rfl⟩
 rw [hN] at L1
 have lN:N.length=D1.length+3:=by rw [← hN,List.length_set,lM]
 have gmN:getC N D1.length 0=some (rowsK 131072 131072 r1 r0).flatten:=by rw [← hN];exact getC_here (by omega)
 have gqN:getC N (D1.length+1) 0=some [.s (.string ⟨#[97]⟩),.sl D1.length 0 0 131072 8]:=by rw [← hN];exact getC_other gq (by omega)
 have gpN:getC N (D1.length+2) 0=some [.s (.string ⟨#[102]⟩),.s (.slice none 0 0),.sl (D1.length+1) 0 0 1 2]:=by rw [← hN];exact getC_other gp (by omega)
 have ldN:xLoad N true 3 (.ref (D1.length+2) 0 0)=some (.agg [.s (.string ⟨#[102]⟩),.s (.slice none 0 0),.sl (D1.length+1) 0 0 1 2]):=by
  rw [xo_ref,gpN]
  rfl
 obtain ⟨N1,hN1⟩:∃ X,N ++ [Ob.cells 0 [.s (.string ⟨#[102]⟩),.s (.slice none 0 0),.sl (D1.length+1) 0 0 1 2]]=X:=⟨_,rfl⟩
 have lN1:N1.length=D1.length+4:=by rw [← hN1,len_snoc,lN]
 have f3:Ext N N1:=hN1 ▸ Ext.app _ _
 have gN1:getC N1 (D1.length+3) 0=some [.s (.string ⟨#[102]⟩),.s (.slice none 0 0),.sl (D1.length+1) 0 0 1 2]:=by rw [← lN,← hN1];exact getC_new N 0 _
 have rN:RdProg N1 (.sl (D1.length+3) 0 0 1 3) (loF E0):=loF_rd w0 (getC_ext gmN f3) hr1.symm (getC_ext gqN f3) gN1
 have nE:(progT (loF E0)).length=786448:=by rw [loF_len,lnI_ret]
 obtain ⟨N2,p3,eN2⟩:=print_ok h base (A:=N1) (by omega) rN (loF_small _) (loF_2 (by decide)) (loF_9 (by decide)) (loF_sm (by decide)) (by omega)
 rw [if_neg (by omega)] at p3
 have z2:=eN2.le
 obtain ⟨tE,htE⟩:∃ t:ByteArray,(⟨(progT (loF E0)).toArray⟩:ByteArray)=t:=⟨_,rfl⟩
 rw [htE] at p3
 have szE:tE.size=786448:=by rw [← htE,← nE];rfl
 have f4:Ext N N2:=f3.trans eN2
 have L2:=kn_l2 (CT:=CT) (v10:=Sb ⟨#[]⟩) (n11:=0) (v14:=Sb tE) (n15:=0) base (getC_ext gpN f4) (getC_ext gqN f4) (by omega) (by omega) (by omega) (by omega) w1 s2
 have gmN2:=getC_ext gmN f4
 rw [rowsK_turn r1 r0 r2] at gmN2
 rw [set_same gmN2] at L2
 obtain ⟨U,hU⟩:∃ X,N2.set D1.length (.cells 0 (rowsK 131072 131072 r2 r1).flatten)=X:=⟨_,rfl⟩
 rw [hU] at L2
 have lU:U.length=N2.length:=by rw [← hU,List.length_set]
 have gmU:getC U D1.length 0=some (rowsK 131072 131072 r2 r1).flatten:=by rw [← hU];exact getC_here (by omega)
 have gqU:getC U (D1.length+1) 0=some [.s (.string ⟨#[97]⟩),.sl D1.length 0 0 131072 8]:=by rw [← hU];exact getC_other (getC_ext gqN f4) (by omega)
 have gpU:getC U (D1.length+2) 0=some [.s (.string ⟨#[102]⟩),.s (.slice none 0 0),.sl (D1.length+1) 0 0 1 2]:=by rw [← hU];exact getC_other (getC_ext gpN f4) (by omega)
 have ldU:xLoad U true 3 (.ref (D1.length+2) 0 0)=some (.agg [.s (.string ⟨#[102]⟩),.s (.slice none 0 0),.sl (D1.length+1) 0 0 1 2]):=by
  rw [xo_ref,gpU]
  rfl
 obtain ⟨U1,hU1⟩:∃ X,U ++ [Ob.cells 0 [.s (.string ⟨#[102]⟩),.s (.slice none 0 0),.sl (D1.length+1) 0 0 1 2]]=X:=⟨_,rfl⟩
 have lU1:U1.length=N2.length+1:=by rw [← hU1,len_snoc,lU]
 have f5:Ext U U1:=hU1 ▸ Ext.app _ _
 have gU1:getC U1 N2.length 0=some [.s (.string ⟨#[102]⟩),.s (.slice none 0 0),.sl (D1.length+1) 0 0 1 2]:=by rw [← lU,← hU1];exact getC_new U 0 _
 have rU:RdProg U1 (.sl N2.length 0 0 1 3) (loF ⟨#[120,120]⟩):=loF_rd w1 (getC_ext gmU f5) hr2.symm (getC_ext gqU f5) gU1
 have nX:(progT (loF ⟨#[120,120]⟩)).length=1179664:=by rw [loF_len,lnI_xx]
 obtain ⟨U2,p4,eU2⟩:=print_ok h base (A:=U1) (by omega) rU (loF_small _) (loF_2 (by decide)) (loF_9 (by decide)) (loF_sm (by decide)) (by omega)
 rw [if_pos (by omega)] at p4
 have z3:=eU2.le
 obtain ⟨E,pt,_⟩:=tells_fun h htl base (A:=U2) (by omega)
 have hz:((⟨#[]⟩:ByteArray).data.toList == (⟨#[]⟩:ByteArray).data.toList)=true:=by decide
 have hzE:(((tE.size:Nat):Int) == 786448)=true:=by rw [szE];rfl
 have i4:=d4.one
 have i5:=d5.one
 have i6:=d6.one
 have i7:=d7.one
 have i8:=d8.one
 have i9:=d9.one
 refine ⟨E,callW_fn (c:=s_f5) hT (by simp [s_f5]) ?_⟩
 simp only [knText] at hz1
 simp only [insC,Sb,Iz,bl,B1,E0,kNull,nilS] at p1 p2 p3 p4 o4 o5 o6 o7 o8 o9 hl0 L1 L2
 have b0:base≤A.length+10:=by omega
 have b1:base≤D1.length+2:=by omega
 simp only [Iz,Sb,bl,nilS,s_f5,a_f5,s_f5_l0_b,s_f5_l1_b,s_f5_l2_b,aa,reduceIte,reduceCtorEq,Nat.reduceEqDiff,Nat.reduceLT,Nat.reduceLeDiff,Nat.reduceBEq,Nat.reduceAdd,Nat.reduceMul,op_appR,hP1,lP1,hP2,lP2,hP3,lP3,hP4,lP4,hP5,lP5,hP6,lP6,hP7,lP7,hP8,lP8,hP9,lP9,hP10,lP10,hP11,lP11,hPf,gP,b0,ldP,p1,hz1,hQ1,lQ1,hQ2,lQ2,hQ3,lQ3,hQ4,lQ4,hQ5,lQ5,hQ6,lQ6,o4,o5,o6,o7,o8,hY,o9,i4,i5,i6,i7,i8,i9,hC,lC,hl0,p2,hz,op_mkSl,hmk,lM1,hM2,lM2,hM3,lM3,gM3,b1,hM,L1,ldN,hN1,lN,p3,L2,ldU,hU1,lU,p4,hzE,pt]
end
end Go.Proofs.YtngfpadeebpoeaaGreatDoor
