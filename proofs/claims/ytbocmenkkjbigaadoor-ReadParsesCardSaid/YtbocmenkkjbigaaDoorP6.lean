/- Texts of the proof: RdS13, RdRB, RdRC, RdRD, RdRE, RdRF, RdRG, RdRH, RdRI, RdRK, RdRL, RdRM, RdRN, RdRO, RdRQ, RdS10, RdtR1, RdtR2, RdtR3. -/
import Derived.Test.YtbocmenkkjbigaaDoorP0
import Derived.Test.YtbocmenkkjbigaaDoorP1
import Derived.Test.YtbocmenkkjbigaaDoorP2
import Derived.Test.YtbocmenkkjbigaaDoorP3
import Derived.Test.YtbocmenkkjbigaaDoorP4
import Derived.Test.YtbocmenkkjbigaaDoorP5
set_option linter.all false
set_option maxRecDepth 100000
namespace Go.Proofs.YtbocmenkkjbigaaDoor
open Go.dO
abbrev SB:Nat:=10
def wy:=[1]++List.range' 4 269
def Wu:=[c0 4 (b1 0)]
def Ij:=q 3 (.alloc [dc,dc])::Wu
def PD:=[q 2 (.alloc [dV])]
def OQ:=PD++Ij
def Dv:=[1]++List.range' 3 270
def aqQ(call:c5)(it:gS)(base f H):aC call it base (.region OQ [] wy) f H=qc call it base (.region Ij [] wy) (sd [] PD Dv (cu call base [⟨some 2,.alloc [.s (.slice none 0 0)],none⟩] f H)):=(E6 call it base PD Ij (kc:=Dv) (by kernel_rfl) f H).trans (by rw[Ee];rfl)
def XL:=[ai 7 33]
def akb:=dt 2 6 32::XL
def azL:=[ai 5 31]
def amJ:=azL++akb
def amR:=q 6 (.alloc [dc,dc])::amJ
def aG3:=[ai 28 30,gJ 31 28 0,gJ 32 28 1,gJ 33 28 2]
def WC:=aG3++amR
def acO:=c2 30 19 [.t 29]::WC
def aD6:=[ai 29 0]
def PE:=aD6++acO
def W6:=[ai 34 7,q 35 (.bin .neq (.t 34) (b1 0))]
def Lo:r5:=[⟨some 36,.build [.s (.slice none 0 0)] [(0,1)] [],none⟩,⟨some 37,.load true 2 (.t 6),none⟩,⟨some 38,.move (.t 7),none⟩,⟨none,.store 1 (.t 2) (.t 36),none⟩,⟨none,.store 2 (.t 3) (.t 37),none⟩,⟨some 4,.move (.t 38),none⟩]
def aqO(call:c5)(it:gS)(base f H):aC call it base (.region Lo [(1,3)] [5,6,7,35,36,37,38]) f H=sR [5,6,7,35,36,37,38] (fun eU=>List.all [(1,3)] (j8 call base Lo f H eU)) (cu call base [⟨some 36,.build [.s (.slice none 0 0)] [(0,1)] [],none⟩,⟨some 37,.load true 2 (.t 6),none⟩,⟨some 38,.move (.t 7),none⟩,⟨none,.store 1 (.t 2) (.t 36),none⟩,⟨none,.store 2 (.t 3) (.t 37),none⟩,⟨some 4,.move (.t 38),none⟩] f H):=FX call it base _ _ _ f H
def ag8:=[q 8 (.alloc [dV])]
def afr:=[c0 9 dP]
def Yd:=[c0 10 (b1 0)]
def I3:=[ai 39 5,ai 40 10,iJ 41 5 39 40,b2 42 0 41,cL 43 42,q 44 (.bin .neq (.t 43) (cK 4))]
def NX:=[ai 45 10,q 46 (.bin .add (.t 45) (b1 1)),ai 11 46]
def aeI:=[ai 47 5,ai 48 11,iJ 49 5 47 48,b2 50 0 49,cL 51 50,q 52 (.bin .neq (.t 51) (cK 4)),ai 53 52,da 54 5 53 true,da 55 11 53 true,bQ 56 (.indexAddr 5 (.t 54) (.t 55)) 53 true,ef 57 3 56 53 true,ef 58 0 57 53 true,e7 59 58 53 true,da 60 5 53 true,da 61 10 53 true,bQ 62 (.indexAddr 5 (.t 60) (.t 61)) 53 true,ef 63 3 62 53 true,ef 64 0 63 53 true,e7 65 64 53 true,bQ 66 (.bin .eql (.t 59) (.t 65)) 53 true,ev 67 (.t 53) (.t 66) dP]
def UH:=[ai 68 11,q 69 (.bin .add (.t 68) (b1 1)),ai 11 69]
def Sg:cM:=
 (.seq (.seq (.bc aeI [47,48,49,50,51,52,53,54,55,56,57,58,59,60,61,62,63,64,65,66] [67])
 (.cond (.t 67)
 .skip
 (.exit 2)))
 (.block 3
 (.bc UH [67,68,69] [11])))
def Ll:cM:=Sg
def Qg:=[ai 70 5,ai 71 10,ai 72 11,q 73 (.ll 5 (.t 70) (some (.t 71)) (some (.t 72)) none),ai 12 73]
def Oi:=[b2 74 0 8,cL 75 74,q 76 (.dD .s (.t 75)),q 77 (.bin .sub (.t 76) (b1 1)),ai 13 77]
def UT:=[ai 14 78,ai 15 79,ai 16 80]
def ag2:=q 80 (.fy 1 1 [cm] [(0,cv #[125])])::UT
def acx:=q 79 (.fy 1 2 [cm,cm] [(0,cv #[78]),(1,cv #[58])])::ag2
def Pg:=q 78 (.fy 1 4 [cm,cm,cm,cm] [(0,cv #[102,117,110,99]),(1,cv #[78]),(2,cv #[40]),(3,cv #[123])])::acx
def TX:=[ai 81 9,q 82 (.un .not (.t 81))]
def ajB:=[ai 83 86,gJ 87 83 0,gJ 88 83 1,ai 17 87,ai 18 88]
def Wa:=c2 86 20 [.t 84,.t 85]::ajB
def aAt:=[ai 84 14,ai 85 12]
def aaC:=aAt++Wa
def aga:=[ai 89 18,q 90 (.un .not (.t 89)),ai 91 90,da 92 17 91 false,da 93 12 91 false,bQ 94 (.dD .s (.t 93)) 91 false,bQ 95 (.bin .lss (.t 92) (.t 94)) 91 false,ev 96 (.t 91) gk (.t 95)]
def aki:=[ai 4 106]
def UI:=dt 2 3 105::aki
def T4:=dt 1 2 104::UI
def apz:=[gJ 104 103 0,gJ 105 103 1,gJ 106 103 2]
def XU:=apz++T4
def abp:=c2 103 21 [.t 102]::XU
def apZ:=[ai 97 5,ai 98 10,ai 99 17,q 100 (.bin .add (.t 98) (.t 99)),iJ 101 5 97 100,q 102 (.load true 5 (.t 101))]
def acP:=apZ++abp
def UU:=[dt 3 19 111]
def afN:=q 19 (.alloc [cm,dV,dV])::UU
def aC6:=[ai 107 12,q 108 (.indexAddr 5 (.t 107) (b1 1)),b2 109 1 108,cL 110 109,q 111 (.build [cm,dV,dV] [(0,1),(1,1),(2,1)] [(0,.t 110)])]
def ahX:=aC6++afN
def ahG:=[c0 20 (b1 2)]
def W2:=[ai 112 20,ai 113 12,q 114 (.dD .s (.t 113)),q 115 (.bin .lss (.t 112) (.t 114))]
def aaD:=[ai 118 12,ai 119 20,iJ 120 5 118 119,b2 121 0 120,cL 122 121,q 123 (.bin .eql (.t 122) (cK 1))]
def ZZ:=[dt 1 133 132]
def aAV:=[b2 133 1 19]
def afF:=aAV++ZZ
def aaB:=q 132 (.append 1 16 (.t 125) (.t 131))::afF
def aa9:=q 131 (.fy 1 1 [cm] [(0,.t 130)])::aaB
def aAP:=[b2 124 1 19,cL 125 124,ai 126 12,ai 127 20,iJ 128 5 126 127,b2 129 1 128,cL 130 129]
def XB:=aAP++aa9
def Zo:=[ai 116 20,q 117 (.bin .add (.t 116) (b1 1)),ai 20 117]
def P0:cM:=
 (.seq (.seq (.bc W2 [112,113,114] [115])
 (.cond (.t 115)
 .skip
 (.exit 4)))
 (.seq (.block 5
 (.seq (.bc aaD [115,118,119,120,121,122] [123])
 (.cond (.t 123)
 (.region XB [] [123,124,125,126,127,128,129,130,131,132,133])
 .skip)))
 (.bc Zo [116,117,123] [20])))
def Tj:cM:=P0
def TA:=[dt 1 139 138]
def aBP:=[b2 139 0 8]
def adf:=aBP++TA
def Ut:=q 138 (.append 3 64 (.t 135) (.t 137))::adf
def Y3:=q 137 (.fy 3 1 [cm,dV,dV] [(0,.t 136)])::Ut
def asI:=[b2 134 0 8,cL 135 134,q 136 (.load true 3 (.t 19))]
def aod:=asI++Y3
def acN:=[c0 9 gk]
def anR:=[ai 140 11,ai 10 140]
def ae1:=[ai 141 144,gJ 145 141 0,gJ 146 141 1,ai 21 145,ai 22 146]
def ak3:=c2 144 20 [.t 142,.t 143]::ae1
def asd:=[ai 142 16,ai 143 12]
def adY:=asd++ak3
def aey:=[ai 147 22,ai 148 147,da 149 21 148 true,da 150 12 148 true,bQ 151 (.dD .s (.t 150)) 148 true,bQ 152 (.bin .eql (.t 149) (.t 151)) 148 true,ev 153 (.t 148) (.t 152) dP]
def WG:=[c0 9 dP]
def acq:=[ai 154 11,ai 10 154]
def afS:=[ai 155 158,gJ 159 155 0,gJ 160 155 1,ai 23 159,ai 22 160]
def aol:=c2 158 20 [.t 156,.t 157]::afS
def atu:=[ai 156 15,ai 157 12]
def abv:=atu++aol
def ajR:=[ai 161 22,ai 162 161,da 163 23 162 true,da 164 12 162 true,bQ 165 (.dD .s (.t 164)) 162 true,bQ 166 (.bin .eql (.t 163) (.t 165)) 162 true,ev 167 (.t 162) (.t 166) dP]
def FD:r5:=[⟨some 168,.fieldAddr 0 (.t 8),none⟩,⟨some 169,.load false 1 (.t 168),none⟩,⟨some 170,.move (.t 13),none⟩,⟨some 171,.fieldAddr 0 (.t 8),none⟩,⟨some 172,.load false 1 (.t 171),none⟩,⟨some 173,.move (.t 13),none⟩,⟨some 174,.indexAddr 3 (.t 172) (.t 173),none⟩,⟨some 175,.fieldAddr 2 (.t 174),none⟩,⟨some 176,.load false 1 (.t 175),none⟩,⟨some 177,.move (.t 12),none⟩,⟨some 178,.indexAddr 5 (.t 177) (.c (.s (.int .i64 0))),none⟩,⟨some 179,.fieldAddr 1 (.t 178),none⟩,⟨some 180,.load false 1 (.t 179),none⟩,⟨some 181,.build [.s (.string ⟨#[]⟩),.s (.slice none 0 0)] [(0,1),(1,1)] [(0,.t 180)],none⟩,⟨some 182,.fy 2 1 [.s (.string ⟨#[]⟩),.s (.slice none 0 0)] [(0,.t 181)],none⟩,⟨some 183,.append 2 40 (.t 176) (.t 182),none⟩,⟨some 184,.indexAddr 3 (.t 169) (.t 170),none⟩,⟨some 185,.fieldAddr 2 (.t 184),none⟩,⟨none,.store 1 (.t 185) (.t 183),none⟩]
def arX(call:c5)(it:gS)(base f H):aC call it base (.region FD [(1,15)] [10,12,13,21,23,167,168,169,170,171,172,173,174,175,176,177,178,179,180,181,182,183,184,185]) f H=sR [10,12,13,21,23,167,168,169,170,171,172,173,174,175,176,177,178,179,180,181,182,183,184,185] (fun eU=>List.all [(1,15)] (j8 call base FD f H eU)) (cu call base [⟨some 168,.fieldAddr 0 (.t 8),none⟩,⟨some 169,.load false 1 (.t 168),none⟩,⟨some 170,.move (.t 13),none⟩,⟨some 171,.fieldAddr 0 (.t 8),none⟩,⟨some 172,.load false 1 (.t 171),none⟩,⟨some 173,.move (.t 13),none⟩,⟨some 174,.indexAddr 3 (.t 172) (.t 173),none⟩,⟨some 175,.fieldAddr 2 (.t 174),none⟩,⟨some 176,.load false 1 (.t 175),none⟩,⟨some 177,.move (.t 12),none⟩,⟨some 178,.indexAddr 5 (.t 177) (.c (.s (.int .i64 0))),none⟩,⟨some 179,.fieldAddr 1 (.t 178),none⟩,⟨some 180,.load false 1 (.t 179),none⟩,⟨some 181,.build [.s (.string ⟨#[]⟩),.s (.slice none 0 0)] [(0,1),(1,1)] [(0,.t 180)],none⟩,⟨some 182,.fy 2 1 [.s (.string ⟨#[]⟩),.s (.slice none 0 0)] [(0,.t 181)],none⟩,⟨some 183,.append 2 40 (.t 176) (.t 182),none⟩,⟨some 184,.indexAddr 3 (.t 169) (.t 170),none⟩,⟨some 185,.fieldAddr 2 (.t 184),none⟩,⟨none,.store 1 (.t 185) (.t 183),none⟩] f H):=FX call it base _ _ _ f H
def ajx:=[ai 186 11,ai 10 186]
def adN:=[ai 187 21,ai 188 23,q 189 (.pk true (.t 187) (.t 188)),ai 21 189]
def ZK:=[b2 190 0 8,cL 191 190,ai 192 13,iJ 193 3 191 192,b2 194 2 193,cL 195 194,ai 24 195]
def alV:=[c0 25 dP]
def ab5:=[ai 26 196]
def Va:=c2 196 22 []::ab5
def adm:=[c0 27 (b1 0)]
def SS:=[ai 197 27,ai 198 26,q 199 (.dD .s (.t 198)),q 200 (.bin .lss (.t 197) (.t 199)),ai 201 200,da 202 24 201 true,bQ 203 (.dD .s (.t 202)) 201 true,bQ 204 (.bin .gtr (.t 203) (b1 0)) 201 true,ev 205 (.t 201) (.t 204) dP]
def aeZ:=[ai 208 215,gJ 216 208 0,gJ 217 208 1,ai 23 216,ai 22 217]
def aaO:=c2 215 20 [.t 213,.t 214]::aeZ
def ast:=[ai 209 26,ai 210 27,iJ 211 2 209 210,b2 212 1 211,cL 213 212,ai 214 12]
def Qt:=ast++aaO
def Ln:=[ai 218 22,ai 219 218,da 220 23 219 true,da 221 12 219 true,bQ 222 (.dD .s (.t 221)) 219 true,bQ 223 (.bin .eql (.t 220) (.t 222)) 219 true,ev 224 (.t 219) (.t 223) dP]
def A2:r5:=[⟨some 225,.move (.t 24),none⟩,⟨some 226,.move (.t 24),none⟩,⟨some 227,.dD .s (.t 226),none⟩,⟨some 228,.bin .sub (.t 227) (.c (.s (.int .i64 1))),none⟩,⟨some 229,.move (.t 24),none⟩,⟨some 230,.move (.t 24),none⟩,⟨some 231,.dD .s (.t 230),none⟩,⟨some 232,.bin .sub (.t 231) (.c (.s (.int .i64 1))),none⟩,⟨some 233,.indexAddr 2 (.t 229) (.t 232),none⟩,⟨some 234,.fieldAddr 1 (.t 233),none⟩,⟨some 235,.load false 1 (.t 234),none⟩,⟨some 236,.move (.t 26),none⟩,⟨some 237,.move (.t 27),none⟩,⟨some 238,.indexAddr 2 (.t 236) (.t 237),none⟩,⟨some 239,.load true 2 (.t 238),none⟩,⟨some 240,.move (.t 12),none⟩,⟨some 241,.oe (.c (.fn 23 [] [])) [.t 239,.t 240],none⟩,⟨some 242,.fy 8 1 [.s (.int .u8 0),.s (.string ⟨#[]⟩),.s (.string ⟨#[]⟩),.s (.string ⟨#[]⟩),.s (.int .i64 0),.s (.string ⟨#[]⟩),.s (.slice none 0 0),.s (.slice none 0 0)] [(0,.t 241)],none⟩,⟨some 243,.append 8 128 (.t 235) (.t 242),none⟩,⟨some 244,.indexAddr 2 (.t 225) (.t 228),none⟩,⟨some 245,.fieldAddr 1 (.t 244),none⟩,⟨none,.store 1 (.t 245) (.t 243),none⟩]
def auc(call:c5)(it:gS)(base f H):aC call it base (.region A2 [(2,18)] [12,23,24,25,26,27,224,225,226,227,228,229,230,231,232,233,234,235,236,237,238,239,240,241,242,243,244,245]) f H=sR [12,23,24,25,26,27,224,225,226,227,228,229,230,231,232,233,234,235,236,237,238,239,240,241,242,243,244,245] (fun eU=>List.all [(2,18)] (j8 call base A2 f H eU)) (cu call base [⟨some 225,.move (.t 24),none⟩,⟨some 226,.move (.t 24),none⟩,⟨some 227,.dD .s (.t 226),none⟩,⟨some 228,.bin .sub (.t 227) (.c (.s (.int .i64 1))),none⟩,⟨some 229,.move (.t 24),none⟩,⟨some 230,.move (.t 24),none⟩,⟨some 231,.dD .s (.t 230),none⟩,⟨some 232,.bin .sub (.t 231) (.c (.s (.int .i64 1))),none⟩,⟨some 233,.indexAddr 2 (.t 229) (.t 232),none⟩,⟨some 234,.fieldAddr 1 (.t 233),none⟩,⟨some 235,.load false 1 (.t 234),none⟩,⟨some 236,.move (.t 26),none⟩,⟨some 237,.move (.t 27),none⟩,⟨some 238,.indexAddr 2 (.t 236) (.t 237),none⟩,⟨some 239,.load true 2 (.t 238),none⟩,⟨some 240,.move (.t 12),none⟩,⟨some 241,.oe (.c (.fn 23 [] [])) [.t 239,.t 240],none⟩,⟨some 242,.fy 8 1 [.s (.int .u8 0),.s (.string ⟨#[]⟩),.s (.string ⟨#[]⟩),.s (.string ⟨#[]⟩),.s (.int .i64 0),.s (.string ⟨#[]⟩),.s (.slice none 0 0),.s (.slice none 0 0)] [(0,.t 241)],none⟩,⟨some 243,.append 8 128 (.t 235) (.t 242),none⟩,⟨some 244,.indexAddr 2 (.t 225) (.t 228),none⟩,⟨some 245,.fieldAddr 1 (.t 244),none⟩,⟨none,.store 1 (.t 245) (.t 243),none⟩] f H):=FX call it base _ _ _ f H
def Gr:=[c0 25 gk]
def N0:=[ai 246 21,ai 247 23,q 248 (.pk true (.t 246) (.t 247)),ai 21 248]
def ai5:=[ai 206 27,q 207 (.bin .add (.t 206) (b1 1)),ai 27 207]
def SM:cM:=
 (.seq (.seq (.bc SS [197,198,199,200,201,202,203,204] [205])
 (.cond (.t 205)
 .skip
 (.exit 6)))
 (.seq (.block 7
 (.seq (.region Qt [] [205,208,209,210,211,212,213,214,215,216,217])
 (.seq (.seq (.bc Ln [22,218,219,220,221,222,223] [224])
 (.cond (.t 224)
 (.seq (.region A2 [(2,18)] [12,23,24,25,26,27,224,225,226,227,228,229,230,231,232,233,234,235,236,237,238,239,240,241,242,243,244,245])
 (.seq (.bc Gr [] [25])
 (.exit 6)))
 .skip))
 (.bc N0 [23,224,246,247,248] [21]))))
 (.bc ai5 [206,207] [27])))
def y7:cM:=SM
def afy:=[ai 249 25,q 250 (.un .not (.t 249))]
def aft:=[ai 4 260]
def akm:=dt 2 3 259::aft
def aop:=dt 1 2 258::akm
def aGw:=[gJ 258 257 0,gJ 259 257 1,gJ 260 257 2]
def akr:=aGw++aop
def afk:=c2 257 21 [.t 256]::akr
def aDc:=[ai 251 5,ai 252 10,ai 253 21,q 254 (.bin .add (.t 252) (.t 253)),iJ 255 5 251 254,q 256 (.load true 5 (.t 255))]
def ai7:=aDc++afk
def aem:=[ai 261 11,ai 10 261]
def uM:cM:=
 (.seq (.seq (.bc I3 [39,40,41,42,43] [44])
 (.cond (.t 44)
 .skip
 (.exit 0)))
 (.block 1
 (.seq (.bc NX [44,45,46] [11])
 (.seq (.block 2
 (.loop [] Ll))
 (.seq (.bc Qg [67,70,71,72,73] [12])
 (.seq (.bc Oi [74,75,76,77] [13])
 (.seq (.region Pg [] [78,79,80])
 (.seq (.seq (.bc TX [81] [82])
 (.cond (.t 82)
 (.seq (.region aaC [] [9,13,14,15,16,82,83,84,85,86,87,88])
 (.seq (.seq (.bc aga [18,89,90,91,92,93,94,95] [96])
 (.cond (.t 96)
 (.seq (.region acP [] [5,8,10,11,12,17,96,97,98,99,100,101,102,103,104,105,106])
 .ret)
 .skip))
 (.seq (.region ahX [] [10,17,96,107,108,109,110,111])
 (.seq (.seq (.bc ahG [] [20])
 (.block 4
 (.loop [] Tj)))
 (.seq (.region aod [] [12,19,20,115,134,135,136,137,138,139])
 (.seq (.bc acN [] [9])
 (.seq (.bc anR [11,140] [10])
 (.exit 1))))))))
 .skip))
 (.seq (.region adY [] [14,16,82,141,142,143,144,145,146])
 (.seq (.seq (.bc aey [22,147,148,149,150,151,152] [153])
 (.cond (.t 153)
 (.seq (.bc WG [10,12,13,15,21,153] [9])
 (.seq (.bc acq [11,154] [10])
 (.exit 1)))
 .skip))
 (.seq (.region abv [] [15,153,155,156,157,158,159,160])
 (.seq (.seq (.bc ajR [22,161,162,163,164,165,166] [167])
 (.cond (.t 167)
 (.seq (.region FD [(1,15)] [10,12,13,21,23,167,168,169,170,171,172,173,174,175,176,177,178,179,180,181,182,183,184,185])
 (.seq (.bc ajx [11,186] [10])
 (.exit 1)))
 .skip))
 (.seq (.bc adN [23,167,187,188,189] [21])
 (.seq (.bc ZK [13,190,191,192,193,194,195] [24])
 (.seq (.bc alV [] [25])
 (.seq (.region Va [] [196])
 (.seq (.seq (.bc adm [] [27])
 (.block 6
 (.loop [] y7)))
 (.seq (.seq (.bc afy [12,24,25,26,27,205,249] [250])
 (.cond (.t 250)
 (.seq (.region ai7 [] [5,8,9,10,11,21,250,251,252,253,254,255,256,257,258,259,260])
 .ret)
 .skip))
 (.bc aem [11,21,250,261] [10])))))))))))))))))))
def sr:cM:=uM
def XA:=[ai 262 9]
def ahZ:=[ai 4 270]
def adv:=dt 2 3 269::ahZ
def WS:=dt 1 2 268::adv
def aDL:=[gJ 268 267 0,gJ 269 267 1,gJ 270 267 2]
def Z5:=aDL++WS
def aeG:=c2 267 21 [.t 266]::Z5
def aHD:=[ai 263 5,ai 264 10,iJ 265 5 263 264,q 266 (.load true 5 (.t 265))]
def ams:=aHD++aeG
def amj:=[c0 4 (b1 0)]
def TL:=dt 2 3 272::amj
def afV:=dt 1 2 271::TL
def ats:=[q 271 (.load true 1 (.t 8)),q 272 (.build [dc,dc] [(0,1),(1,1)] [])]
def Uc:=ats++afV
def pe:eI:={ ntmps:=273,results:=[.cell 2 true 1,.cell 3 true 2,.tmp 4],body:=
 (.seq (.region OQ [] wy)
 (.seq (.region PE [] [0,28,29,30,31,32,33])
 (.seq (.seq (.bc W6 [34] [35])
 (.cond (.t 35)
 (.seq (.region Lo [(1,3)] [5,6,7,35,36,37,38])
 .ret)
 .skip))
 (.seq (.region ag8 [] [6,7,35])
 (.seq (.bc afr [] [9])
 (.seq (.bc Yd [] [10])
 (.seq (.block 0
 (.loop [] sr))
 (.seq (.seq (.bc XA [9,44] [262])
 (.cond (.t 262)
 (.seq (.region ams [] [5,8,10,262,263,264,265,266,267,268,269,270])
 .ret)
 .skip))
 (.seq (.region Uc [] [5,8,10,262,271,272])
 .ret))))))))) }
theorem aDG:gF (List.range' 1 (pe.ntmps-1)) pe.body=true:=by kernel_rfl
def jP:=I (bE Dv 0) (I (bE Dv 2) (I (bn Dv 3) (I (bn Dv 4) (I aqQ (I (aS Ij [] wy) (I (dB Wu wy [] 5 [] [] [.cI (.s (.int .i64 0))]) (I (bE wy 0) (I (bE wy 2) (I (bE wy 3) (I (bn wy 4) (I (bl PE [0] [29] D7 30 [] [(29,.t 0)] [.ay 0]) (I (aS acO [29] D7) (I (bl WC [28,30] [31,32,33] D7 34 [] [(31,gY 0 (.t 30)),(32,gY 1 (.t 30)),(33,gY 2 (.t 30))] [.ay 30,ad [],.sub 1 [] [],.sub 2 [] []]) (I (aS amR [] D7) (I (bl amJ [31] [5] D7 6 [] [(5,.t 31)] [.ay 31]) (I (aS akb [32] D7) (I (dB XL [0,28,29,30,31,32,33] [7] 8 [] [(7,.t 33)] [.ay 33]) (I (aR W6 [34] [35] 36 [] [(35,jK .neq 0 (.t 7))] [.ay 7,ad []]) (I (cx ag8 [6,7,35]) (I (aR afr [] [9] 10 [] [(9,ht)] [.cI (.s (.bool false))]) (I (aR Yd [] [10] 11 [] [(10,jz 0)] [.cI (.s (.int .i64 0))]) (I (aR I3 [39,40,41,42,43] [44] 45 [] [(44,lF .neq 4 (bO (bI 0 (gU 5 (.t 5) (.t 10)))))] [.ay 5,.ay 10,ad [0,0,0],ad [0,0],ad [0],ad []]) (I (aR NX [44,45,46] [11] 47 [] [(11,fV 1 (.t 10))] [.ay 10,ad [],ad []]) (I (aR aeI [47,48,49,50,51,52,53,54,55,56,57,58,59,60,61,62,63,64,65,66] [67] 68 [] [(67,.pick (lF .neq 4 (bO (bI 0 (gU 5 (.t 5) (.t 11))))) (eS .eql (bO (bI 0 (bI 3 (gU 5 (.t 5) (.t 11))))) (bO (bI 0 (bI 3 (gU 5 (.t 5) (.t 10)))))) ht)] [.ay 5,.ay 11,ad [0,0,0,0],ad [0,0,0],ad [0,0],ad [0],ad [0],.sub 0 [1,0,0,0,0,0] [53],.sub 0 [1,0,0,0,0,1] [53],.sub 0 [1,0,0,0,0] [53],.sub 0 [1,0,0,0] [53],.sub 0 [1,0,0] [53],.sub 0 [1,0] [53],.sub 0 [1,0,0,0,0,0] [53],.sub 0 [1,1,0,0,0,1] [53],.sub 0 [1,1,0,0,0] [53],.sub 0 [1,1,0,0] [53],.sub 0 [1,1,0] [53],.sub 0 [1,1] [53],.sub 0 [1] [53],ad []]) (I (aR UH [67,68,69] [11] 70 [] [(11,fV 1 (.t 11))] [.ay 11,ad [],ad []]) (I (bx Ll Sg) (I (aR Qg [67,70,71,72,73] [12] 74 [] [(12,.op (.ll 5 (.t 0) (some (.t 1)) (some (.t 2)) none) [.t 5,.t 10,.t 11])] [.ay 5,.ay 10,.ay 11,ad [],ad []]) (I (aR Oi [74,75,76,77] [13] 78 [] [(13,jK .sub 1 (ig (bO (bI 0 (.t 8)))))] [ad [0,0,0],ad [0,0],ad [0],ad [],ad []]) (I (aS Pg [] [78,79,80]) (I (aS acx [] [78,79,80]) (I (aS ag2 [] [78,79,80]) (I (dB UT [78,79,80] [14,15,16] 17 [] [(14,.t 78),(15,.t 79),(16,.t 80)] [.ay 78,.ay 79,.ay 80]) (I (aR TX [81] [82] 83 [] [(82,mv (.t 9))] [.ay 9,ad []]) (I (bl aaC [9,13,14,15,16,82] [84,85] Xn 86 [] [(84,.t 14),(85,.t 12)] [.ay 14,.ay 12]) (I (aS Wa [84,85] Xn) (I (dB ajB [9,13,14,15,16,82,83,84,85,86,87,88] [17,18] 89 [] [(17,gY 0 (.t 86)),(18,gY 1 (.t 86))] [.ay 86,ad [],.sub 1 [] [],ad [],.sub 1 [] []]) (I (aR aga [18,89,90,91,92,93,94,95] [96] 97 [] [(96,.pick (mv (.t 18)) hH (eS .lss (.t 17) (ig (.t 12))))] [.ay 18,ad [0],ad [0],.sub 0 [2,0] [91],.sub 0 [2,1,0] [91],.sub 0 [2,1] [91],.sub 0 [2] [91],ad []]) (I (bl acP [5,8,10,11,12,17,96,97,98,99,100,101] [102] FV 103 [] [(102,kA 5 (gU 5 (.t 5) (eS .add (.t 10) (.t 17))))] [.ay 5,.ay 10,.ay 17,ad [0,1],ad [0],ad []]) (I (aS abp [102] FV) (I (bl XU [103] [104,105,106] FV 107 [] [(104,gY 0 (.t 103)),(105,gY 1 (.t 103)),(106,gY 2 (.t 103))] [ad [],.sub 1 [] [],.sub 2 [] []]) (I (aS T4 [104] FV) (I (aS UI [105] FV) (I (dB aki [5,8,10,11,12,17,96,97,98,99,100,101,102,103,104,105,106] [4] 5 [] [(4,.t 106)] [.ay 106]) (I (bl ahX [10,17,96,107,108,109,110] [111] [10,17,96,107,108,109,110,111] 112 [] [(111,.op (.build [.s (.string ⟨#[]⟩),.s (.slice none 0 0),.s (.slice none 0 0)] [(0,1),(1,1),(2,1)] [(0,.t 0)]) [bO (bI 1 (oA 5 1 (.t 12)))])] [.ay 12,ad [0,0,0],ad [0,0],ad [0],ad []]) (I (aS afN [] [10,17,96,107,108,109,110,111]) (I (cx UU [10,17,96,107,108,109,110,111]) (I (aR ahG [] [20] 21 [] [(20,jz 2)] [.cI (.s (.int .i64 2))]) (I (aR W2 [112,113,114] [115] 116 [] [(115,eS .lss (.t 20) (ig (.t 12)))] [.ay 20,.ay 12,ad [1],ad []]) (I (aR aaD [115,118,119,120,121,122] [123] 124 [] [(123,hj 1 (bO (bI 0 (gU 5 (.t 12) (.t 20)))))] [.ay 12,.ay 20,ad [0,0,0],ad [0,0],ad [0],ad []]) (I (bl XB [123,124,126,127,128,129] [125,130] Kl 131 [] [(125,bO (bI 1 (.t 19))),(130,bO (bI 1 (gU 5 (.t 12) (.t 20))))] [ad [0],ad [],.ay 12,.ay 20,.sub 1 [0,0] [],.sub 1 [0] [],.sub 1 [] []]) (I (aS aa9 [130] Kl) (I (aS aaB [125,131] Kl) (I (bl afF [] [133] Kl 134 [] [(133,bI 1 (.t 19))] [ad []]) (I (cx ZZ [123,124,125,126,127,128,129,130,131,132,133]) (I (aR Zo [116,117,123] [20] 118 [] [(20,fV 1 (.t 20))] [.ay 20,ad [],ad []]) (I (bx Tj P0) (I (bl aod [12,19,20,115,134] [135,136] LN 137 [] [(135,bO (bI 0 (.t 8))),(136,kA 3 (.t 19))] [ad [0],ad [],.sub 1 [] []]) (I (aS Y3 [136] LN) (I (aS Ut [135,137] LN) (I (bl adf [] [139] LN 140 [] [(139,bI 0 (.t 8))] [ad []]) (I (cx TA [12,19,20,115,134,135,136,137,138,139]) (I (aR acN [] [9] 10 [] [(9,hH)] [.cI (.s (.bool true))]) (I (aR anR [11,140] [10] 141 [] [(10,.t 11)] [.ay 11,.ay 11]) (I (bl adY [14,16,82] [142,143] aeX 144 [] [(142,.t 16),(143,.t 12)] [.ay 16,.ay 12]) (I (aS ak3 [142,143] aeX) (I (dB ae1 [14,16,82,141,142,143,144,145,146] [21,22] 147 [] [(21,gY 0 (.t 144)),(22,gY 1 (.t 144))] [.ay 144,ad [],.sub 1 [] [],ad [],.sub 1 [] []]) (I (aR aey [22,147,148,149,150,151,152] [153] 154 [] [(153,.pick (.t 22) (eS .eql (.t 21) (ig (.t 12))) ht)] [.ay 22,.ay 22,.sub 0 [1,0] [148],.sub 0 [1,1,0] [148],.sub 0 [1,1] [148],.sub 0 [1] [148],ad []]) (I (aR WG [10,12,13,15,21,153] [9] 10 [] [(9,ht)] [.cI (.s (.bool false))]) (I (aR acq [11,154] [10] 155 [] [(10,.t 11)] [.ay 11,.ay 11]) (I (bl abv [15,153] [156,157] amc 158 [] [(156,.t 15),(157,.t 12)] [.ay 15,.ay 12]) (I (aS aol [156,157] amc) (I (dB afS [15,153,155,156,157,158,159,160] [23,22] 161 [] [(23,gY 0 (.t 158)),(22,gY 1 (.t 158))] [.ay 158,ad [],.sub 1 [] [],ad [],.sub 1 [] []]) (I (aR ajR [22,161,162,163,164,165,166] [167] 168 [] [(167,.pick (.t 22) (eS .eql (.t 23) (ig (.t 12))) ht)] [.ay 22,.ay 22,.sub 0 [1,0] [162],.sub 0 [1,1,0] [162],.sub 0 [1,1] [162],.sub 0 [1] [162],ad []]) (I (aR ajx [11,186] [10] 187 [] [(10,.t 11)] [.ay 11,.ay 11]) (I (aR adN [23,167,187,188,189] [21] 190 [] [(21,.op (.pk true (.t 0) (.t 1)) [.t 21,.t 23])] [.ay 21,.ay 23,ad [],ad []]) (I (aR ZK [13,190,191,192,193,194,195] [24] 196 [] [(24,bO (bI 2 (gU 3 (bO (bI 0 (.t 8))) (.t 13))))] [ad [0,0,0,0],ad [0,0,0],.ay 13,ad [0,0],ad [0],ad [],ad []]) (I (aR alV [] [25] 26 [] [(25,ht)] [.cI (.s (.bool false))]) (I (aS Va [] [196]) (I (dB ab5 [196] [26] 27 [] [(26,.t 196)] [.ay 196]) (I (aR adm [] [27] 28 [] [(27,jz 0)] [.cI (.s (.int .i64 0))]) (I (aR SS [197,198,199,200,201,202,203,204] [205] 206 [] [(205,.pick (eS .lss (.t 27) (ig (.t 26))) (jK .gtr 0 (ig (.t 24))) ht)] [.ay 27,.ay 26,ad [0,1],ad [0],ad [0],.sub 0 [1,0,0] [201],.sub 0 [1,0] [201],.sub 0 [1] [201],ad []]) (I (bl Qt [205,209,210,211,212] [213,214] amz 215 [] [(213,bO (bI 1 (gU 2 (.t 26) (.t 27)))),(214,.t 12)] [.ay 26,.ay 27,ad [0,0],ad [0],ad [],.ay 12]) (I (aS aaO [213,214] amz) (I (dB aeZ [205,208,209,210,211,212,213,214,215,216,217] [23,22] 218 [] [(23,gY 0 (.t 215)),(22,gY 1 (.t 215))] [.ay 215,ad [],.sub 1 [] [],ad [],.sub 1 [] []]) (I (aR Ln [22,218,219,220,221,222,223] [224] 225 [] [(224,.pick (.t 22) (eS .eql (.t 23) (ig (.t 12))) ht)] [.ay 22,.ay 22,.sub 0 [1,0] [219],.sub 0 [1,1,0] [219],.sub 0 [1,1] [219],.sub 0 [1] [219],ad []]) (I (aR Gr [] [25] 26 [] [(25,hH)] [.cI (.s (.bool true))]) (I (aR N0 [23,224,246,247,248] [21] 249 [] [(21,.op (.pk true (.t 0) (.t 1)) [.t 21,.t 23])] [.ay 21,.ay 23,ad [],ad []]) (I (aR ai5 [206,207] [27] 208 [] [(27,fV 1 (.t 27))] [.ay 27,ad [],ad []]) (I (bx y7 SM) (I (aR afy [12,24,25,26,27,205,249] [250] 251 [] [(250,mv (.t 25))] [.ay 25,ad []]) (I (bl ai7 [5,8,9,10,11,21,250,251,252,253,254,255] [256] Gn 257 [] [(256,kA 5 (gU 5 (.t 5) (eS .add (.t 10) (.t 21))))] [.ay 5,.ay 10,.ay 21,ad [0,1],ad [0],ad []]) (I (aS afk [256] Gn) (I (bl akr [257] [258,259,260] Gn 261 [] [(258,gY 0 (.t 257)),(259,gY 1 (.t 257)),(260,gY 2 (.t 257))] [ad [],.sub 1 [] [],.sub 2 [] []]) (I (aS aop [258] Gn) (I (aS akm [259] Gn) (I (dB aft [5,8,9,10,11,21,250,251,252,253,254,255,256,257,258,259,260] [4] 5 [] [(4,.t 260)] [.ay 260]) (I (aR aem [11,21,250,261] [10] 262 [] [(10,.t 11)] [.ay 11,.ay 11]) (I (bx sr uM) (I (aR XA [9,44] [262] 263 [] [(262,.t 9)] [.ay 9]) (I (bl ams [5,8,10,262,263,264,265] [266] EU 267 [] [(266,kA 5 (gU 5 (.t 5) (.t 10)))] [.ay 5,.ay 10,ad [0],ad []]) (I (aS aeG [266] EU) (I (bl Z5 [267] [268,269,270] EU 271 [] [(268,gY 0 (.t 267)),(269,gY 1 (.t 267)),(270,gY 2 (.t 267))] [ad [],.sub 1 [] [],.sub 2 [] []]) (I (aS WS [268] EU) (I (aS adv [269] EU) (I (dB ahZ [5,8,10,262,263,264,265,266,267,268,269,270] [4] 5 [] [(4,.t 270)] [.ay 270]) (I (bl Uc [5,8,10,262] [271,272] Qo 273 [] [(271,kA 1 (.t 8)),(272,.op (.build [.s (.int .i64 0),.s (.int .i64 0)] [(0,1),(1,1)] []) [])] [ad [],.sub 1 [] []]) (I (aS afV [271] Qo) (I (aS TL [272] Qo) (I (dB amj [5,8,10,262,271,272] [4] 5 [] [(4,jz 0)] [.cI (.s (.int .i64 0))]) (I Sg.eq_1 (I uM.eq_1 (I SM.eq_1 (P0.eq_1)))))))))))))))))))))))))))))))))))))))))))))))))))))))))))))))))))))))))))))))))))))))))))))))))))))))))))))))))
theorem awg:fN Tryd.prog fm 10=some (false,pe.ntmps,pe.results,pe.body.bare):=by kernel_rfl
def te(ts:List Tok.T):Prop:=∀(i:Nat) (t:Tok.T),ts[i]?=some t->t.kind≠4->i+1<ts.length
def Yf{ts}(bx:te ts)(a6):∀(l:List Tok.T) (j:Nat),ts.drop j=l->j<ts.length->j+h3 a6 l<ts.length:=by
 intro l
 induction l with
 |nil=>intro j _ br;exact br
 |cons t l aw=>
   intro j aQ br
   have ae:ts[j]?=some t:=by have:=dX (·[0]?) aQ;simp only[h4]at this;exact this
   have fz:ts.drop (j+1)=l:=by
    have:=dX (List.drop 1) aQ
    simpa[nL]using this
   rw[h3];by_cases h:t.kind=4\/t.line≠a6
   .rw[a' h];exact br
   .rw[bm h];rw[zU]at h;have:=aw (j+1) fz (bx j t ae h.1);omega
section
variable {ah:Nat->Option c7}
def ap5(base:Nat){C}{cQ cZ:Nat}{ts}(hw:DV C cQ cZ ts)(bx:te ts)(aN:ts.length<2^40){u2 u3 u8 gI}{a:Nat}{t0}(a1:ts[a]?=some t0):∀(l:List Tok.T) (j:Nat),ts.drop j=l->j<ts.length->
 aG (aC (aU ah) aG base Ll) [] C.length (au 273 [(2,u2),(3,u3),(5,.aB cQ cZ 0 ts.length 5),(8,u8),(9,gI),(10,.s (.int .i64 a)),(11,.s (.int .i64 j))]) C=some (.ext 2,au 273 [(2,u2),(3,u3),(5,.aB cQ cZ 0 ts.length 5),(8,u8),(9,gI),(10,.s (.int .i64 a)),(11,.s (.int .i64 (j+h3 t0.line l:Nat))),(67,.s (.bool false))],C):=by
 have aj:=hw.all;intro l
 induction l with
 |nil=>
   intro j aQ br;have:=dX List.length aQ;rw[fJ,d9]at this;omega
 |cons t l aw=>
   intro j aQ br
   have ae:ts[j]?=some t:=by have:=dX (·[0]?) aQ;simp only[h4]at this;exact this
   have fz:ts.drop (j+1)=l:=by
    have:=dX (List.drop 1) aQ
    simpa[nL]using this
   obtain⟨i1,g1,cn,cy,_,a2,_,_,a3⟩:=aj.at ae;obtain⟨i2,g2,dK,dA,_,_,_,_,e9⟩:=aj.at a1;have aO:∀fr,trim C.length fr C=C:=fun fr=>Aa rfl
   have qd:=ie (n:=j) (by omega)
   rw[h3,eo];by_cases hs:t.kind=4
   .rw[a' (.inl hs),oL]
    have e3:(((t.kind:Nat):Int) != 4)=false:=by rw[hs];rfl
    simp only[jP,simprocAttr,aM,cy,a2,e3,aO]
   .have e3:(((t.kind:Nat):Int) != 4)=true:=by rw[hU];omega
    by_cases yI:t.line≠t0.line
    .rw[a' (.inr yI),oL]
     have el:(((t.line:Nat):Int)==((t0.line:Nat):Int))=false:=by rw[eZ];omega
     simp only[jP,simprocAttr,aM,cy,a2,a3,dA,e9,e3,el,aO]
    .rw[bm (by rw[zU];exact⟨hs,yI⟩)]
     rw[GF]at yI
     have el:(((t.line:Nat):Int)==((t0.line:Nat):Int))=true:=by rw[yI];exact lz _
     have q:=aw (j+1) fz (bx j t ae hs)
     rw[show j+1+h3 t0.line l=j+(h3 t0.line l+1) by omega]at q
     simp only[jP,simprocAttr,aM,cy,a2,a3,dA,e9,e3,el,qd,aO,q]
structure DF (z:Nat) (H:az) (nm:ByteArray) (ps:List ByteArray) (pv:V) (C:az):Prop where
 box:ao C z 0=some [.s (.string nm),pv,.s (.slice none 0 0)]
 row:cp (z+1) 1 C pv (fX ps)
 len:z+1<=C.length
 ed:∀i,i<z->C[i]?=H[i]?
 nil:ps=[]->pv=bz
def DF.cj{z H nm ps pv C}(h:DF z H nm ps pv C)(fr):DF z H nm ps pv (trim (z+1) fr C):=by
 by_cases a1:ps=[]
 .have av:=h.nil a1;have ak:=h.len
  have bb:∀i,i<z+1->∀c,ao C i 0=some c->ao (trim (z+1) fr C) i 0=some c:=fun i hi c aa=>by
   unfold ao at aa |-;rw[tQ _ _ _ hi];exact aa
  refine⟨bb _ (by omega) _ h.box,by rw[av,a1];exact cp.start _ _ _,?_,fun i hi=>by rw[tQ _ _ _ (by omega),h.ed i hi],h.nil⟩
  rcases Go.dO.rW (z+1) fr C with e|⟨e,_⟩<;>rw[e]
  .exact ak
  .rw[lG];omega
 .have e:trim (z+1) fr C=C:=by
   rcases B5 (z+1) fr C with e|⟨_,_,e⟩
   .exact e
   .obtain⟨i,g',aF,aK⟩:=akh h.row a1
    have:=e z 0 _ (by omega) h.box i g' 0 ps.length 1 (by rw[<- aF];simp)
    omega
  rw[e];exact h
set_option maxHeartbeats 1000000 in
def axz(base){z H}(af:base<=z)(aD:H.length<=z){v u2 u3 fB u8 gD l}(aj:lB H v l)(aN:l.length<2^40){nm}:∀(ls:List Tok.T) (j:Nat) (ps:List ByteArray) (pv:V) (C:az),l.drop j=ls->j<=l.length->ps.length<=j->DF z H nm ps pv C->
 ∃kZ bh,aG (aC (aU ah) aG base Tj) [] (z+1) (au 273 [(2,u2),(3,u3),(5,fB),(8,u8),(11,gD),(12,v),(19,.ref z 0 0),(20,.s (.int .i64 j))]) C=some (.ext 4,au 273 [(2,u2),(3,u3),(5,fB),(8,u8),(11,gD),(12,v),(19,.ref z 0 0),(20,.s (.int .i64 l.length)),(115,.s (.bool false))],bh)/\DF z H nm (ep ps ls) kZ bh:=by
 intro ls
 induction ls with
 |nil=>
   intro j ps pv C aQ br mw h
   have mb:j=l.length:=by
    have:=dX List.length aQ;rw[fJ,d9]at this;omega
   subst mb;have ak:=(aj.bT aD h.ed).len;refine⟨pv,_,?_,h.cj (au 273 [(2,u2),(3,u3),(5,fB),(8,u8),(11,gD),(12,v),(19,.ref z 0 0),(20,.s (.int .i64 l.length)),(115,.s (.bool false))])⟩;rw[eo];simp only[jP,simprocAttr,aM,ak,nq]
 |cons t ls aw=>
   intro j ps pv C aQ br mw h
   have xC:l[j]?=some t:=by have:=dX (·[0]?) aQ;simp only[h4]at this;exact this
   have mb:=(cC.1 xC).1
   have fz:l.drop (j+1)=ls:=by
    have:=dX (List.drop 1) aQ
    simpa[nL]using this
   have bt:((j:Int)<((l.length:Nat):Int)):=by omega
   have qd:=ie (n:=j) (by omega)
   have G3:=aj.bT aD h.ed;have ak:=G3.len;obtain⟨id,g,p,ea,_,ey,nO,_⟩:=G3.at xC;have mA:=rU t.kind 1;simp only[za]at mA;rw[ep];by_cases k1:t.kind=1
   .have dA:(t.kind==1)=true:=by rw[k1];rfl
    rw[dA]at mA;have dd:=h.len
    obtain⟨AL,D,cy,a2,a3,a4⟩:=FZ h.row (base:=base) (bytes:=16) (by omega) dd ⟨t.text.toArray⟩ (by omega)
    have an:∀i,i<z+1->D[i]?=C[i]?:=fun i hi=>a4 i (by omega) fun g n e=>by
     have rZ:=h.row;subst e;have:=fS rZ;omega
    have pj:ao D z 0=some [.s (.string nm),pv,.s (.slice none 0 0)]:=by
     have:=h.box;unfold ao at this |-
     rw[an z (by omega)]
     exact this
    obtain⟨E,bx⟩:∃X,D.set z (.cells 0 [.s (.string nm),AL,.s (.slice none 0 0)])=X:=⟨_,rfl⟩
    have q9:∀i,i≠z->E[i]?=D[i]?:=fun i hi=>by rw[<- bx,cf (gG hi)]
    have J7:E.length=D.length:=by rw[<- bx,eF]
    have fE:DF z H nm (ps++[⟨t.text.toArray⟩]) AL E:=⟨bx▸e4 pj _,a2.bT fun i g n e=>(by subst e;have:=fS a2;exact q9 i (by omega)),by omega,fun i hi=>by rw[q9 i (by omega),an i (by omega),h.ed i hi],fun e=>by simp at e⟩
    have sC:=h.row.rd.one;have ak5:=a2.rd.one;have aA8:=ym ak5;have kX:=h.box
    obtain⟨tz,bh,bC,bP⟩:=aw (j+1) _ AL _ fz (by omega) (by rw[fU,bi];omega) (fE.cj (au 273 [(2,u2),(3,u3),(5,fB),(8,u8),(11,gD),(12,v),(19,.ref z 0 0),(20,.s (.int .i64 (j+1:Nat)))]))
    rw[a' k1];refine⟨tz,bh,?_,bP⟩;simp only[a7]at cy;rw[eo];simp only[jP,simprocAttr,aM,ak,bt,ea,ey,nO,mA,kX,cy,ak5,aA8,pj,bx,af,qd,bC]
   .have dA:(t.kind==1)=false:=by rw[eZ];exact k1
    rw[dA]at mA;rw[bm k1]
    obtain⟨tz,bh,bC,bP⟩:=aw (j+1) ps pv _ fz (by omega) (by omega) (h.cj (au 273 [(2,u2),(3,u3),(5,fB),(8,u8),(11,gD),(12,v),(19,.ref z 0 0),(20,.s (.int .i64 (j+1:Nat)))]))
    refine⟨tz,bh,?_,bP⟩;rw[eo];simp only[jP,simprocAttr,aM,ak,bt,ea,ey,mA,qd,bC]
end
def anN{id g N}:j9 3 (.aB id g 0 (N+1) 3) (.s (.int .i64 (N:Int)))=some (.ref id g (N*3)):=by
 rw[sX,a' ⟨by omega,by omega,rfl⟩,oH,j2]
theorem akU{C id g n dR x y z}(h:ao C id g=some (dR++[x,y,z]))(ak:dR.length=n):gl C false 1 (.ref id g (n+2))=some z:=by
 rw[lW,h]
 have:(dR++[x,y,z]).drop (n+2)=[z]:=by
  rw[zF,qO (by omega),ak]
  simp
 dsimp only;rw[this];rfl
section
variable {ah:Nat->Option c7}
set_option maxHeartbeats 1000000 in
theorem aHa(base){L c1 C cD gs nm ps bU}(h:h8 L C cD gs nm ps bU)(af:base<=L)(b5:ao C c1 0=some [cD])(OK:c1<L){u2 u3 fB gI hM gD qH Gw pv l}(aj:lB C pv l){t}(a1:l[0]?=some t)(aN:bU.length+1<2^21):
 ∃D,aC (aU ah) aG base (.region FD [(1,15)] [10,12,13,21,23,167,168,169,170,171,172,173,174,175,176,177,178,179,180,181,182,183,184,185]) (au 273 [(2,u2),(3,u3),(5,fB),(8,.ref c1 0 0),(9,gI),(10,hM),(11,gD),(12,pv),(13,.s (.int .i64 gs.length)),(21,qH),(23,Gw),(167,.s (.bool true))]) C=some (.bH,au 273 [(2,u2),(3,u3),(5,fB),(8,.ref c1 0 0),(9,gI),(11,gD)],D)/\h8 L D cD gs nm ps (bU++[⟨⟨t.text.toArray⟩,[]⟩])/\(∀j,j<L->D[j]?=C[j]?)/\C.length<=D.length:=by
 obtain⟨id,g,dR,kZ,bv,w,bh,e,J,U,ax,aY,cl,eM,ks,mR,oR,gm,vi⟩:=h.LM (base:=base) af ⟨t.text.toArray⟩ aN;subst e
 rw[show dR++[a7 nm,kZ,w]=dR++[a7 nm,kZ]++[w] by simp]at gm
 obtain⟨D,cX⟩:∃X,bh.set id (.cells g (dR++[a7 nm,kZ]++[w]))=X:=⟨_,rfl⟩;rw[cX]at gm;have A4:=anN (id:=id) (g:=g) (N:=gs.length);have pS:=akU U ax;obtain⟨i1,g1,cn,cy,_,_,a2,_⟩:=aj.at a1;have s9:=ym eM
 have mh:(dR++[a7 nm,kZ,bv]).take (gs.length*3+2)=dR++[a7 nm,kZ]:=by
  rw[Ho,wW (by omega),ax]
  simp
 have FQ:(dR++[a7 nm,kZ,bv]).drop (gs.length*3+2+1)=[]:=qO (by simp;omega)
 have a6:gs.length*3+2+1<=(dR++[a7 nm,kZ,bv]).length:=by simp;omega
 have iZ:base<=id:=by omega
 refine⟨D,?_,gm,fun j br=>by rw[<- cX,cf (by omega),oR j br],by rw[<- cX,eF];omega⟩
 simp only[a7,bz,rD]at cl cy mh FQ a6 ks cX;simp only[arX,simprocAttr,sR,aM,b5,A4,pS,cy,a2,cl,eM,s9,ks,mh,FQ,a6,iZ,cX];have j1:∀(a b c:Nat),V.jM (.ref a b c)=some (some a):=fun _ _ _=>rfl
 have fin:aux (some (some c1)) (V.y6 bv)=true:=by
  rcases vi with e|⟨x,e,ae⟩
  .rw[e];rfl
  .rw[e];show(c1 != x)=true;rw[hU];omega
 simp only[j8,simprocAttr,Ge,FD,mo,jg,Bw,b3.place,b3.obj,aM,j1,fin]
 try rfl
theorem asC{C id g n dR x y}(h:ao C id g=some (dR++[x,y]))(ak:dR.length=n):gl C false 1 (.ref id g (n+1))=some y:=by
 rw[lW,h]
 have:(dR++[x,y]).drop (n+1)=[y]:=by
  rw[zF,qO (by omega),ak]
  simp
 dsimp only;rw[this];rfl
set_option maxHeartbeats 2000000 in
theorem azf(lp:ah Je=some (.code ke))(base:Nat){L:Nat}{C cD bv gs nm ps dj lv}(h:h8 L C cD gs nm ps (dj++[lv]))(af:base<=L)(dw:L<=C.length)(tq:∃id g dR pv,cD=.aB id g 0 (gs.length+1) 3/\ao C id g=some (dR++[a7 nm,pv,bv])/\dR.length=gs.length*3)(aaT:dj.length<2^40){u2 u3 fB u8 gI hM gD qH Gw pv f26 l}(aj:lB C pv l)(wv:l.length<2^38)(al:ga 2 Mb C f26 fq){i:Nat}{f}(CD:fq[i]?=some f)(fG:0<f.2.length)(dv:zp f.1 (f.2.getD 0 ⟨#[]⟩).data.toList (ep [] l))(EY:lv.code.length+1<2^21):
 ∃D,aC (aU ah) aG base (.region A2 [(2,18)] [12,23,24,25,26,27,224,225,226,227,228,229,230,231,232,233,234,235,236,237,238,239,240,241,242,243,244,245]) (au 273 [(2,u2),(3,u3),(5,fB),(8,u8),(9,gI),(10,hM),(11,gD),(12,pv),(21,qH),(23,Gw),(24,bv),(25,.s (.bool false)),(26,f26),(27,.s (.int .i64 i)),(224,.s (.bool true))]) C=some (.bH,au 273 [(2,u2),(3,u3),(5,fB),(8,u8),(9,gI),(10,hM),(11,gD),(21,qH)],D)/\(∀fr,h8 L (trim C.length fr D) cD gs nm ps (Go.Proofs.YtbocmenkkjbigaaDoor.oJ (dj++[lv]) (qR f.1 (f.2.getD 0 ⟨#[]⟩).data.toList (ep [] l) (gO 0 l))))/\(∀j,j<L->D[j]?=C[j]?)/\C.length<=D.length:=by
 obtain⟨a26,aBu,eG,⟨dZ,NI,ee,gh⟩,k6,_⟩:=al.pC CD;subst NI;have zJ:=k6 C (Ext.refl _);obtain⟨r,bF,cq,cN,et,jd,lx⟩:=aBI lp C.length (bS _) aj wv ee gh fG dv;obtain⟨x,ae⟩:∃x,qR f.1 (f.2.getD 0 ⟨#[]⟩).data.toList (ep [] l) (gO 0 l)=x:=⟨_,rfl⟩;rw[ae]at lx |-;obtain⟨cd,bB,yy,gX,_,z3,_⟩:=lx bF fun _ _ _=>rfl;have mF:=gX.one;have ol:=z3.one;obtain⟨id,g,dR,kZ,c8,mC,gK,bZ,e,J,U,ax,aY,cl,eM,ks,mR⟩:=h.oJ (base:=base) af;obtain⟨eX,g',aJX,S0,bw,EM,aJa⟩:=tq;rw[e]at bw;obtain⟨cn,dK,_⟩:=V.aB.inj bw;subst cn;subst dK;rw[U]at EM
 have avz:bv=.aB c8 mC 0 (dj.length+1) 2:=by
  have ak:=dX List.getLast? (hc EM);simp at ak;exact ak.symm
 subst avz;obtain⟨w,cb,h2,hA,lN,GH,zl,M0,EI⟩:=mR bF r x (fun j _ br=>cN.get br) cN.le et jd lx EY;subst yy
 rw[show gK++[a7 lv.label,w]=gK++[a7 lv.label]++[w] by simp]at EI
 obtain⟨D,cX⟩:∃X,cb.set c8 (.cells mC (gK++[a7 lv.label]++[w]))=X:=⟨_,rfl⟩;rw[cX]at EI;have so:∀X,h0 X .s (.aB c8 mC 0 (dj.length+1) 2)=some (.s (.int .i64 (dj.length+1:Nat))):=fun _=>rfl
 have aV:IntKind.i64.wrap (((dj.length+1:Nat):Int)-1)=((dj.length:Nat):Int):=by rw[IntKind.wrap_i64];omega
 have A4:j9 2 (.aB c8 mC 0 (dj.length+1) 2) (.s (.int .i64 (dj.length:Nat)))=some (.ref c8 mC (dj.length*2)):=by
  rw[sX,a' ⟨by omega,by omega,rfl⟩,oH,j2]
 have pS:=asC cl eM;have s9:=ym hA
 have mh:(gK++[a7 lv.label,bZ]).take (dj.length*2+1)=gK++[a7 lv.label]:=by
  rw[Ho,wW (by omega),eM]
  simp
 have FQ:(gK++[a7 lv.label,bZ]).drop (dj.length*2+1+1)=[]:=qO (by simp;omega)
 have a6:dj.length*2+1+1<=(gK++[a7 lv.label,bZ]).length:=by simp;omega
 have iZ:base<=c8:=by omega
 refine⟨D,?_,EI,fun j br=>by rw[<- cX,cf (by omega),zl j br,cN.get (by omega)],by rw[<- cX,eF];have:=cN.le;omega⟩
 simp only[dL,a7]at cq h2 mh FQ a6 lN cX;simp only[auc,simprocAttr,sR,aM,so,aV,A4,pS,eG,zJ,cq,mF,ol,h2,hA,s9,lN,mh,FQ,a6,iZ,cX];have j1:∀(a b c:Nat),V.jM (.ref a b c)=some (some a):=fun _ _ _=>rfl
 have fin:aux (V.jM (.aB c8 mC 0 (dj.length+1) 2)) (V.y6 bZ)=true:=by
  rcases M0 with e|⟨y,e,_⟩<;>rw[e]<;>rfl
 simp only[j8,simprocAttr,Ge,A2,mo,jg,Bw,b3.place,b3.obj,aM,fin]
 try rfl
end
def cO(l:List ByteArray):List (List UInt8):=l.map fun b=>b.data.toList
def aeS{call:c5}{it:gS}{base j a b fr cg H H1}(h:aC call it base a fr H=some (.ext j,cg,H1)):aC call it base (.seq a b) fr H=some (.ext j,cg,H1):=by simp only[aC,h]
def j5(l:List Tok.T):List (Nat × List ByteArray)->Nat->Sum (Nat × List ByteArray) Nat
 | [],ja=>.inr ja
 |f::bG,ja=>if((bW l (cO f.2) 0).2&&(bW l (cO f.2) 0).1==l.length)=true then .inl f else j5 l bG (max ja (bW l (cO f.2) 0).1)
structure u0 (ah:Nat->Option c7):Prop where
 F:Qe ah
 azq:ah Lu=some (.code uT)
 OB:ah Tp=some (.code xf)
 instr:ah Je=some (.code ke)
def agi:∀f∈fq,f.2.length<2^40/\0<f.2.length:=by
 intro f al
 have:fq.all (fun f=>decide (f.2.length<2^40/\0<f.2.length))=true:=by decide +kernel
 exact EG (dU.1 this f al)
def WD(a b:Nat):(if((a:Int)<(b:Int))then((b:Nat):Int)else((a:Nat):Int))=((max a b:Nat):Int):=by
 split<;>omega
section
variable {ah:Nat->Option c7}
set_option maxHeartbeats 2000000 in
def avP(aR:u0 ah)(base:Nat){L:Nat}{C cD bv gs nm ps dj lv}(h:h8 L C cD gs nm ps (dj++[lv]))(af:base<=L)(dw:L<=C.length)(tq:∃id g dR pv,cD=.aB id g 0 (gs.length+1) 3/\ao C id g=some (dR++[a7 nm,pv,bv])/\dR.length=gs.length*3)(aaT:dj.length<2^40){u2 u3 fB u8 gI hM gD pv f26 l}(aj:lB C pv l)(wv:l.length<2^38)(al:ga 2 Mb C f26 fq)(dv:∀f∈fq,((bW l (cO f.2) 0).2&&(bW l (cO f.2) 0).1==l.length)=true->zp f.1 (f.2.getD 0 ⟨#[]⟩).data.toList (ep [] l))(EY:lv.code.length+1<2^21):∀(bG:List (Nat × List ByteArray)) (i ja:Nat),fq.drop i=bG->i<=16->
 match j5 l bG ja with
  |.inr be=>aG (aC (aU ah) aG base y7) [] C.length (au 273 [(2,u2),(3,u3),(5,fB),(8,u8),(9,gI),(10,hM),(11,gD),(12,pv),(21,.s (.int .i64 ja)),(24,bv),(25,.s (.bool false)),(26,f26),(27,.s (.int .i64 i))]) C=some (.ext 6,au 273 [(2,u2),(3,u3),(5,fB),(8,u8),(9,gI),(10,hM),(11,gD),(12,pv),(21,.s (.int .i64 be)),(24,bv),(25,.s (.bool false)),(26,f26),(27,.s (.int .i64 16)),(205,.s (.bool false))],C)
  |.inl f=>∃D qH,aG (aC (aU ah) aG base y7) [] C.length (au 273 [(2,u2),(3,u3),(5,fB),(8,u8),(9,gI),(10,hM),(11,gD),(12,pv),(21,.s (.int .i64 ja)),(24,bv),(25,.s (.bool false)),(26,f26),(27,.s (.int .i64 i))]) C=some (.ext 6,au 273 [(2,u2),(3,u3),(5,fB),(8,u8),(9,gI),(10,hM),(11,gD),(21,qH),(25,.s (.bool true))],D)/\h8 L D cD gs nm ps (oJ (dj++[lv]) (qR f.1 (f.2.getD 0 ⟨#[]⟩).data.toList (ep [] l) (gO 0 l)))/\(∀j,j<L->D[j]?=C[j]?)/\C.length<=D.length:=by
 have ei:=al.len;have f16:fq.length=16:=rfl;rw[f16]at ei;have e0:=aj.len
 have ds:∀X,h0 X .s bv=some (.s (.int .i64 (dj.length+1:Nat))):=by
  obtain⟨id,g,dR,kZ,e,U,ax⟩:=tq;obtain⟨nJ,g2,cN,S0,c8,mC,_,_,aK,_,aY,cl,_⟩:=h.oJ (base:=base) af;rw[e]at aK;obtain⟨cn,dK,_⟩:=V.aB.inj aK;subst cn;subst dK;rw[U]at aY;have ak:=dX List.getLast? (hc aY);simp at ak;rw[ak];exact fun _=>rfl
 have aO:∀fr,trim C.length fr C=C:=fun fr=>Aa rfl
 have nC:(((dj.length+1:Nat):Int) > 0):=by omega
 intro bG
 induction bG with
 |nil=>
   intro i ja aQ hi
   have fG:i=16:=by
    have:=dX List.length aQ;rw[fJ,d9,f16]at this;omega
   subst fG;show aG _ _ _ _ _=_;rw[eo]
   have bt:¬(((16:Nat):Int)<((16:Nat):Int)):=by omega
   have aCR:((16:Nat):Int)=16:=rfl;simp only[jP,aM,Nat.reduceEqDiff,Nat.reduceLT,Nat.reduceLeDiff,Nat.reduceBEq,ei,aCR,nq,aO]
 |cons f bG aw=>
   intro i ja aQ hi
   have CD:fq[i]?=some f:=by have:=dX (·[0]?) aQ;simp only[h4]at this;exact this
   have aI7:i<16:=(cC.1 CD).1
   have fz:fq.drop (i+1)=bG:=by
    have:=dX (List.drop 1) aQ
    simpa[nL]using this
   have p':=hR CD;obtain⟨a26,aBu,eG,⟨dZ,NI,ee,gh⟩,_,k6⟩:=al.pC CD;subst NI;obtain⟨FT,ea,ey⟩:=k6 1 _ rfl;have nO:=ey C (Ext.refl _)
   have q:=yU aR.F base aj (by omega) ee gh (agi f p').1
   have bt:((i:Int)<((16:Nat):Int)):=by omega
   have azj:=ie (n:=i) (by omega)
   rw[j5];obtain⟨k,an⟩:∃k,(bW l (cO f.2) 0).1=k:=⟨_,rfl⟩;obtain⟨ok,eQ⟩:∃ok,(bW l (cO f.2) 0).2=ok:=⟨_,rfl⟩;have al6:=dv f p';rw[an,eQ]at al6 |-
   have gM:aU ah (.fn No [] []) [dZ,pv] base C=some (.bV [.s (.int .i64 k),.s (.bool ok)],C):=by rw[<- an,<- eQ];exact q
   have fv:=rU k l.length;by_cases hm:(ok&&k==l.length)=true
   .rw[a' hm];simp only[dr]at hm;rw[hm.2]at fv
    obtain⟨D,bC,bP,dk,eC⟩:=azf aR.instr base h af dw tq aaT aj wv al CD (agi f p').2 (al6 (by rw[hm.1,hm.2];rfl)) EY (u2:=u2) (u3:=u3) (fB:=fB) (u8:=u8) (gI:=gI) (hM:=hM) (gD:=gD) (qH:=.s (.int .i64 ja)) (Gw:=.s (.int .i64 k))
    refine⟨trim C.length (au 273 [(2,u2),(3,u3),(5,fB),(8,u8),(9,gI),(10,hM),(11,gD),(21,.s (.int .i64 ja)),(25,.s (.bool true))]) D,.s (.int .i64 ja),?_,bP _,fun j br=>by rw[tQ _ _ _ (by omega),dk j br],?_⟩
    .rw[eo]
     have awp:aC (aU ah) aG base (.region Qt [] [205,208,209,210,211,212,213,214,215,216,217]) (au 273 [(2,u2),(3,u3),(5,fB),(8,u8),(9,gI),(10,hM),(11,gD),(12,pv),(21,.s (.int .i64 ja)),(24,bv),(25,.s (.bool false)),(26,f26),(27,.s (.int .i64 i)),(205,.s (.bool true))]) C=some (.bH,au 273 [(2,u2),(3,u3),(5,fB),(8,u8),(9,gI),(10,hM),(11,gD),(12,pv),(21,.s (.int .i64 ja)),(22,.s (.bool ok)),(23,.s (.int .i64 k)),(24,bv),(25,.s (.bool false)),(26,f26),(27,.s (.int .i64 i))],C):=by
      simp only[jP,aM,Nat.reduceEqDiff,Nat.reduceLT,Nat.reduceLeDiff,Nat.reduceBEq,eG,ea,nO,gM]
     have aDJ:aC (aU ah) aG base (.seq (.bc SS [197,198,199,200,201,202,203,204] [205]) (.cond (.t 205) .skip (.exit 6))) (au 273 [(2,u2),(3,u3),(5,fB),(8,u8),(9,gI),(10,hM),(11,gD),(12,pv),(21,.s (.int .i64 ja)),(24,bv),(25,.s (.bool false)),(26,f26),(27,.s (.int .i64 i))]) C=some (.bH,au 273 [(2,u2),(3,u3),(5,fB),(8,u8),(9,gI),(10,hM),(11,gD),(12,pv),(21,.s (.int .i64 ja)),(24,bv),(25,.s (.bool false)),(26,f26),(27,.s (.int .i64 i)),(205,.s (.bool true))],C):=by
      simp only[jP,aM,Nat.reduceEqDiff,Nat.reduceLT,Nat.reduceLeDiff,Nat.reduceBEq,ei,bt,ds,nC]
     have e3:aC (aU ah) aG base (.bc Ln [22,218,219,220,221,222,223] [224]) (au 273 [(2,u2),(3,u3),(5,fB),(8,u8),(9,gI),(10,hM),(11,gD),(12,pv),(21,.s (.int .i64 ja)),(22,.s (.bool ok)),(23,.s (.int .i64 k)),(24,bv),(25,.s (.bool false)),(26,f26),(27,.s (.int .i64 i))]) C=some (.bH,au 273 [(2,u2),(3,u3),(5,fB),(8,u8),(9,gI),(10,hM),(11,gD),(12,pv),(21,.s (.int .i64 ja)),(23,.s (.int .i64 k)),(24,bv),(25,.s (.bool false)),(26,f26),(27,.s (.int .i64 i)),(224,.s (.bool true))],C):=by
      simp only[jP,aM,Nat.reduceEqDiff,Nat.reduceLT,Nat.reduceLeDiff,Nat.reduceBEq,e0,fv,hm.1]
     have azs:aC (aU ah) aG base (.seq (.bc Gr [] [25]) (.exit 6)) (au 273 [(2,u2),(3,u3),(5,fB),(8,u8),(9,gI),(10,hM),(11,gD),(21,.s (.int .i64 ja))]) D=some (.ext 6,au 273 [(2,u2),(3,u3),(5,fB),(8,u8),(9,gI),(10,hM),(11,gD),(21,.s (.int .i64 ja)),(25,.s (.bool true))],D):=by
      simp only[jP,aM,Nat.reduceEqDiff,Nat.reduceLT,Nat.reduceLeDiff]
     have f':aC (aU ah) aG base y7 (au 273 [(2,u2),(3,u3),(5,fB),(8,u8),(9,gI),(10,hM),(11,gD),(12,pv),(21,.s (.int .i64 ja)),(24,bv),(25,.s (.bool false)),(26,f26),(27,.s (.int .i64 i))]) C=some (.ext 6,au 273 [(2,u2),(3,u3),(5,fB),(8,u8),(9,gI),(10,hM),(11,gD),(21,.s (.int .i64 ja)),(25,.s (.bool true))],D):=by
      refine(eh aDJ).trans ?_
      have tf:aC (aU ah) aG base (.seq (.seq (.bc Ln [22,218,219,220,221,222,223] [224]) (.cond (.t 224) (.seq (.region A2 [(2,18)] [12,23,24,25,26,27,224,225,226,227,228,229,230,231,232,233,234,235,236,237,238,239,240,241,242,243,244,245]) (.seq (.bc Gr [] [25]) (.exit 6))) .skip)) (.bc N0 [23,224,246,247,248] [21])) (au 273 [(2,u2),(3,u3),(5,fB),(8,u8),(9,gI),(10,hM),(11,gD),(12,pv),(21,.s (.int .i64 ja)),(22,.s (.bool ok)),(23,.s (.int .i64 k)),(24,bv),(25,.s (.bool false)),(26,f26),(27,.s (.int .i64 i))]) C=some (.ext 6,au 273 [(2,u2),(3,u3),(5,fB),(8,u8),(9,gI),(10,hM),(11,gD),(21,.s (.int .i64 ja)),(25,.s (.bool true))],D):=by
       have Ql:=(eh e3).trans ((Fk (call:=aU ah) (it:=aG) (base:=base) (c:=.t 224) (a:=.seq (.region A2 [(2,18)] [12,23,24,25,26,27,224,225,226,227,228,229,230,231,232,233,234,235,236,237,238,239,240,241,242,243,244,245]) (.seq (.bc Gr [] [25]) (.exit 6))) (b:=.skip) rfl).trans ((eh bC).trans azs));exact aeS Ql
      exact aeS (afx (j:=6) (i:=7) rfl ((eh awp).trans tf))
     rw[f'];rfl
    .rcases rW C.length (au 273 [(2,u2),(3,u3),(5,fB),(8,u8),(9,gI),(10,hM),(11,gD),(21,.s (.int .i64 ja)),(25,.s (.bool true))]) D with e|⟨e,_⟩<;>rw[e]
     .exact eC
     .rw[lG];omega
   .rw[bm hm]
    have gL:(bif ok then(((k:Nat):Int)==((l.length:Nat):Int))else false)=false:=by
     rw[fv];cases ok<;>simp_all
    have aP:=aw (i+1) (max ja k) fz (by omega)
    have ft:=WD ja k;revert aP
    have step:aG (aC (aU ah) aG base y7) [] C.length (au 273 [(2,u2),(3,u3),(5,fB),(8,u8),(9,gI),(10,hM),(11,gD),(12,pv),(21,.s (.int .i64 ja)),(24,bv),(25,.s (.bool false)),(26,f26),(27,.s (.int .i64 i))]) C=aG (aC (aU ah) aG base y7) [] C.length (au 273 [(2,u2),(3,u3),(5,fB),(8,u8),(9,gI),(10,hM),(11,gD),(12,pv),(21,.s (.int .i64 (max ja k:Nat))),(24,bv),(25,.s (.bool false)),(26,f26),(27,.s (.int .i64 (i+1:Nat)))]) C:=by
     rw[eo];simp only[jP,aM,Nat.reduceEqDiff,Nat.reduceLT,Nat.reduceLeDiff,Nat.reduceBEq,ei,bt,ds,nC,eG,ea,nO,gM,e0,gL,azj,aO,ft]
    cases j5 l bG (max ja k)with
    |inr be=>intro aP;exact step.trans aP
    |inl eU=>rintro⟨D,qH,aP,bj⟩;exact⟨D,qH,step.trans aP,bj⟩
end
def xh:cM:=match uM with
 |.seq _ (.block _ c)=>c
 |_=>.skip
def pA:cM:=match xh with
 |.seq _ (.seq _ (.seq _ (.seq _ (.seq _ r))))=>r
 |_=>.skip
def lD:List ByteArray:=[⟨#[102,117,110,99]⟩,⟨#[78]⟩,⟨#[40]⟩,⟨#[123]⟩]
def nd:List ByteArray:=[⟨#[78]⟩,⟨#[58]⟩]
def lb:List ByteArray:=[⟨#[125]⟩]
structure kx (m0:Nat) (b7:az) (L z2 z3 c1 cQ cZ:Nat) (ts:List Tok.T) (C:az) (cD:V):Prop where
 cV:ao C z2 0=some [.s (.slice none 0 0)]
 e9:ao C z3 0=some [.s (.int .i64 0),.s (.int .i64 0)]
 mG:ao C c1 0=some [cD]
 pR:DV C cQ cZ ts
 lt:z2<L/\z3<L/\c1<L/\cQ<L
 ne:z2≠z3/\c1≠z2/\c1≠z3/\cQ≠c1/\cQ≠z2/\cQ≠z3
 len:L<=C.length
 ed:∀j,j<m0->C[j]?=b7[j]?
 Ae:m0<=z2/\m0<=z3/\m0<=c1
def kx.bT{m0 b7 L z2 z3 c1 cQ cZ ts C D cD}(h:kx m0 b7 L z2 z3 c1 cQ cZ ts C cD)(k:∀j,j<L->D[j]?=C[j]?)(ak:C.length<=D.length):kx m0 b7 L z2 z3 c1 cQ cZ ts D cD:=by
 obtain⟨en,e8,uY,sY⟩:=h.lt
 have g:∀i g c,i<L->ao C i g=some c->ao D i g=some c:=fun i g c hi aa=>by
  unfold ao at aa |-;rw[k i hi];exact aa
 exact⟨g _ _ _ en h.cV,g _ _ _ e8 h.e9,g _ _ _ uY h.mG,g _ _ _ sY h.pR,h.lt,h.ne,by have:=h.len;omega,fun j br=>by have:=h.Ae;rw[k j (by omega),h.ed j br],h.Ae⟩
section
variable {ah:Nat->Option c7} {m0:Nat} {b7:az}
set_option maxHeartbeats 2000000 in
theorem aw8(base:Nat){L z2 z3 c1 cQ cZ:Nat}{ts C cD}(bJ:kx m0 b7 L z2 z3 c1 cQ cZ ts C cD)(bx:te ts)(aN:ts.length<2^38){a:Nat}{t}(a1:ts[a]?=some t)(aY:t.kind≠4){p6:Nat}(bb:h0 C .s cD=some (.s (.int .i64 p6)))(aJ1:p6<2^40){w}{n b:Nat}(JI:h3 t.line (ts.drop (a+1))+1=n)(hS:a+n=b):
 ∃bF kk kF kJ,aC (aU ah) aG base sr (au 273 [(2,.ref z2 0 0),(3,.ref z3 0 0),(5,.aB cQ cZ 0 ts.length 5),(8,.ref c1 0 0),(9,.s (.bool w)),(10,.s (.int .i64 a))]) C=qZ 1 (aC (aU ah) aG base pA (au 273 [(2,.ref z2 0 0),(3,.ref z3 0 0),(5,.aB cQ cZ 0 ts.length 5),(8,.ref c1 0 0),(9,.s (.bool w)),(10,.s (.int .i64 a)),(11,.s (.int .i64 b)),(12,.aB cQ cZ (a*5) n 5),(13,.s (.int .i64 ((p6:Int)-1))),(14,kk),(15,kF),(16,kJ)]) bF)/\Ext C bF/\Rd bF kk (lD.map a7)/\hF kk/\Rd bF kF (nd.map a7)/\hF kF/\Rd bF kJ (lb.map a7)/\hF kJ/\b<ts.length:=by
 have aD:=bx a t a1 aY;have hI:=Yf bx t.line _ (a+1) rfl aD
 have ij:=ap5 (ah:=ah) base bJ.pR bx (by omega) (u2:=.ref z2 0 0) (u3:=.ref z3 0 0) (u8:=.ref c1 0 0) (gI:=.s (.bool w)) a1 _ (a+1) rfl aD
 rw[show a+1+h3 t.line (ts.drop (a+1))=b by omega]at ij
 have aj:=bJ.pR.all;obtain⟨i1,g1,cn,ea,_,ey,_⟩:=aj.at a1;obtain⟨j4,o7⟩:∃X,C++[bq.cells 0 [.s (.string ⟨#[102,117,110,99]⟩),.s (.string ⟨#[78]⟩),.s (.string ⟨#[40]⟩),.s (.string ⟨#[123]⟩)]]=X:=⟨_,rfl⟩;obtain⟨hr,ow⟩:∃X,j4++[bq.cells 0 [.s (.string ⟨#[78]⟩),.s (.string ⟨#[58]⟩)]]=X:=⟨_,rfl⟩;obtain⟨lK,s8⟩:∃X,hr++[bq.cells 0 [.s (.string ⟨#[125]⟩)]]=X:=⟨_,rfl⟩;have eG:Ext C j4:=o7▸Ext.app _ _;have ee:Ext j4 hr:=ow▸Ext.app _ _;have gh:Ext hr lK:=s8▸Ext.app _ _
 have e3:(((t.kind:Nat):Int) != 4)=true:=by rw[hU];omega
 have hT:=ie (n:=a) (by omega)
 have aCg:DC 5 cQ cZ 0 ts.length 5 (some (a:Int)) (some (b:Int))=some (.aB cQ cZ (a*5) n 5):=by
  rw[NZ,a' ⟨by omega,by omega,by omega,rfl⟩,oH,j2]
  congr 2
  omega
 have axx:IntKind.i64.wrap ((p6:Int)-1)=(p6:Int)-1:=by rw[IntKind.wrap_i64];omega
 refine⟨lK,.aB C.length 0 0 4 1,.aB j4.length 0 0 2 1,.aB hr.length 0 0 1 1,?_,eG.trans (ee.trans gh),np (df (o7▸dz C 0 _) (ee.trans gh)),l9 _ _ _ _ _,np (df (ow▸dz j4 0 _) gh),l9 _ _ _ _ _,np (s8▸dz hr 0 _),l9 _ _ _ _ _,by omega⟩
 have aa:∃x y z q r s,sr=.seq x (.block 1 (.seq y (.seq z (.seq q (.seq r (.seq s pA))))))/\x=.seq (.bc I3 [39,40,41,42,43] [44]) (.cond (.t 44) .skip (.exit 0))/\y=.bc NX [44,45,46] [11]/\z=.block 2 (.loop [] Ll)/\q=.bc Qg [67,70,71,72,73] [12]/\r=.bc Oi [74,75,76,77] [13]/\s=.region Pg [] [78,79,80]:=⟨_,_,_,_,_,_,rfl,rfl,rfl,rfl,rfl,rfl,rfl⟩;obtain⟨x,y,z,q,r,s,aa,rfl,rfl,rfl,rfl,rfl,rfl⟩:=aa;rw[aa];obtain⟨R,b8⟩:∃R,pA=R:=⟨_,rfl⟩;rw[b8];have DJ:=bJ.mG;simp only[jP,simprocAttr,aM,ea,ey,e3,hT,ij,aCg,DJ,bb,axx,o7,ow,s8]
 try rfl
end
def aEc{l pr aZ}:∀(n:Nat) {a:Nat},a<=l.length->(mq l pr aZ n a).1<=l.length:=by
 intro n
 induction n with
 |zero=>intro a h;exact h
 |succ n aw=>
   intro a h;rw[mq];by_cases J:cT l a 1 []=true
   .rw[a' J];have bp:=jh J;by_cases U:(pr&&!cT l (a+1) 3 [58])=true
    .rw[a' U];exact bp
    .rw[bm U];by_cases ax:(pr&&!cT l (a+2) 1 [])=true
     .rw[a' ax];simp only[dr,not_and,nz,Bool.not_eq_false']at U ax;have:=jh (U ax.1);show a+2<=_;omega
     .rw[bm ax]
      obtain⟨b,af⟩:∃b,(if pr=true then a+3 else a+1)=b:=⟨_,rfl⟩
      have ds:b<=l.length:=by
       rw[<- af];split
       .rename_i aj;simp only[aj,px,nz,Bool.not_eq_false']at ax;have:=jh ax;omega
       .omega
      rw[af];dsimp only;by_cases aY:cT l b 3 aZ=true
      .rw[a' aY];have:=jh aY;exact this
      .rw[bm aY];by_cases cl:cT l b 3 [44]=true
       .rw[a' cl];have:=jh cl
        exact aw (by omega)
       .rw[bm cl];exact ds
   .rw[bm J];exact h
def azz{l pr aZ a}(h:a<=l.length):(k' l pr aZ a).1<=l.length:=by
 unfold k';split
 .rename_i J;simp only[dr]at J;exact jh J.2
 .exact aEc _ h
def F'{l}:∀(is:List (List UInt8)) {a:Nat},a<=l.length->(bW l is a).1<=l.length:=by
 intro is
 induction is with
 |nil=>intro a h;exact h
 |cons it is aw=>
   intro a h;rw[bW];split
   .split
    .rename_i J;have:=jh J;exact aw (by omega)
    .exact h
   .split
    .split
     .rename_i J;have:=jh J;exact aw (by omega)
     .exact h
    .split
     .dsimp only;split
      .rename_i J;exact jh J
      .exact h
     .split
      .split
       .rename_i J;have:=jh J
        have B:=azz (l:=l) (pr:=it==[91]) (aZ:=if(it==[91])=true then[93]else[41]) (a:=a+1) (by omega)
        revert B
        generalize k' l (it==[91]) (if(it==[91])=true then[93]else[41]) (a+1)=r
        intro B;split
        .exact aw B
        .exact B
       .exact h
      .split
       .rename_i J;have:=apS J;exact aw (by omega)
       .exact h
def zx(L z2 z3:Nat)(t:Tok.T)(bF D:az):Prop:=ao D z2 0=some [.s (.slice none 0 0)]/\ao D z3 0=some [.s (.int .i64 t.line),.s (.int .i64 t.jB)]/\bF.length<=D.length/\∀j,j<L->j≠z3->D[j]?=bF[j]?
section
variable {ah:Nat->Option c7} {m0:Nat} {b7:az}
def Lx(aR:u0 ah)(base){L z2 z3 c1 cQ cZ ts C cD}(bJ:kx m0 b7 L z2 z3 c1 cQ cZ ts C cD)(af:base<=C.length)(t):∃W D,aU ah (.fn Lu [] []) [.agg [.s (.int .u8 t.kind),.s (.string ⟨t.text.toArray⟩),.s (.int .i64 t.n),.s (.int .i64 t.line),.s (.int .i64 t.jB)]] base C=some (.bV [.agg [.s (.slice none 0 0)],.agg [.s (.int .i64 t.line),.s (.int .i64 t.jB)],.s (.int .i64 (if t.kind=4 then 41 else 40:Nat))],W)/\ao W z2 0=some [.s (.slice none 0 0)]/\W.set z2 (.cells 0 [.s (.slice none 0 0)])=W/\ao W z3 0=some [.s (.int .i64 0),.s (.int .i64 0)]/\W.set z3 (.cells 0 [.s (.int .i64 t.line),.s (.int .i64 t.jB)])=D/\zx L z2 z3 t C D:=by
 obtain⟨W,aV,b4⟩:=aul aR.azq base af t;obtain⟨en,e8,uY,sY⟩:=bJ.lt;have g2:=df bJ.cV b4;have g3:=df bJ.e9 b4;have ak:=bJ.len
 refine⟨W,_,aV,g2,JV g2,g3,rfl,by rw[tv _ bJ.ne.1];exact g2,e4 g3 _,by rw[eF];exact b4.le,fun j br KF=>by rw[cf (gG KF),b4.get (by omega)]⟩
set_option maxHeartbeats 2000000 in
def aFP(aR:u0 ah)(base){L z2 z3 c1 cQ cZ ts C cD}(bJ:kx m0 b7 L z2 z3 c1 cQ cZ ts C cD)(aN:ts.length<2^38)(fM:base<=z2/\base<=z3){a n b}(hS:a+n=b)(ds:b<ts.length){l}(ak:(ts.drop a).take n=l){kk kF kJ z'}(ar:Rd C kk (lD.map a7))(hw:hF kk){k ok}(al:bW l (cO lD) 0=(k,ok))(qA:(!ok||decide (k<n))=true){e}(he:ts[a+k]?=some e):
 ∃D,aC (aU ah) aG base pA (au 273 [(2,.ref z2 0 0),(3,.ref z3 0 0),(5,.aB cQ cZ 0 ts.length 5),(8,.ref c1 0 0),(9,.s (.bool false)),(10,.s (.int .i64 a)),(11,.s (.int .i64 b)),(12,.aB cQ cZ (a*5) n 5),(13,z'),(14,kk),(15,kF),(16,kJ)]) C=some (.ret,au 273 [(2,.ref z2 0 0),(3,.ref z3 0 0),(4,.s (.int .i64 (if e.kind=4 then 41 else 40:Nat)))],D)/\zx L z2 z3 e C D:=by
 have aj:=bJ.pR.Cz (a:=a) (n:=n) (by omega)
 rw[ak]at aj
 have qm:l.length=n:=by rw[<- ak,lG,fJ];omega
 have q:=yU aR.F base aj (by omega) ar hw (by decide)
 rw[show lD.map (fun b=>b.data.toList)=cO lD from rfl,al]at q
 have an:k<=n:=by have:=F' (l:=l) (cO lD) (a:=0) (fa _);rw[al,qm]at this;exact this
 obtain⟨W,D,aV,b4,dJ,eO,hY,oK⟩:=Lx aR base bJ (by have:=bJ.lt;have:=bJ.len;omega) e
 obtain⟨i1,g1,cn,ea,ey,_⟩:=bJ.pR.all.at he
 have HR:IntKind.i64.wrap ((a:Int)+(k:Int))=((a+k:Nat):Int):=by rw[IntKind.wrap_i64];omega
 have e0:∀X,h0 X .s (.aB cQ cZ (a*5) n 5)=some (.s (.int .i64 n)):=fun _=>rfl;have KW:=fM.1;have J1:=fM.2
 have Z6:(bif !ok then true else decide ((k:Int)<(n:Int)))=true:=by
  have e:decide ((k:Int)<(n:Int))=decide (k<n):=by simp
  rw[e];cases ok<;>simp_all
 refine⟨D,?_,oK⟩;cases ok<;>simp only[SO,Rl,alw,aiV]at Z6<;>simp only[pA,simprocAttr,xh,uM,jP,aM,q,e0,Z6,HR,ea,ey,aV,b4,dJ,eO,hY,KW,J1,k7]
end
section
variable {ah:Nat->Option c7} {m0:Nat} {b7:az}
set_option maxHeartbeats 2000000 in
def az9(aR:u0 ah)(base){L z2 z3 c1 cQ cZ ts C cD}(bJ:kx m0 b7 L z2 z3 c1 cQ cZ ts C cD)(aN:ts.length<2^38)(aBb:base<=c1){gs}(jr:j3 L C cD gs)(aze:gs.length+1<2^21){a n b}(hS:a+n=b)(ds:b<ts.length){l}(ak:(ts.drop a).take n=l){kk kF kJ z'}(ar:Rd C kk (lD.map a7))(hw:hF kk){k ok}(al:bW l (cO lD) 0=(k,ok))(eQ:ok=true/\¬k<n){e}(he:l[1]?=some e)(kW:2<=n):
 ∃w D,qZ 1 (aC (aU ah) aG base pA (au 273 [(2,.ref z2 0 0),(3,.ref z3 0 0),(5,.aB cQ cZ 0 ts.length 5),(8,.ref c1 0 0),(9,.s (.bool false)),(10,.s (.int .i64 a)),(11,.s (.int .i64 b)),(12,.aB cQ cZ (a*5) n 5),(13,z'),(14,kk),(15,kF),(16,kJ)]) C)=some (.bH,au 273 [(2,.ref z2 0 0),(3,.ref z3 0 0),(5,.aB cQ cZ 0 ts.length 5),(8,.ref c1 0 0),(9,.s (.bool true)),(10,.s (.int .i64 b))],D)/\h8 L D w gs ⟨e.text.toArray⟩ (ep [] (l.drop 2)) []/\kx m0 b7 L z2 z3 c1 cQ cZ ts D w:=by
 have aj:=bJ.pR.Cz (a:=a) (n:=n) (by omega)
 rw[ak]at aj
 have qm:l.length=n:=by rw[<- ak,lG,fJ];omega
 have q:=yU aR.F base aj (by omega) ar hw (by decide)
 rw[show lD.map (fun b=>b.data.toList)=cO lD from rfl,al,eQ.1]at q
 have aoO:¬((k:Int)<(n:Int)):=by omega
 have e0:∀X,h0 X .s (.aB cQ cZ (a*5) n 5)=some (.s (.int .i64 n)):=fun _=>rfl;obtain⟨i1,g1,cn,ea,_,_,ey,_⟩:=aj.at he;have cq:((1:Nat):Int)=1:=rfl;rw[cq]at ea;obtain⟨nm,oF⟩:∃nm:ByteArray,⟨e.text.toArray⟩=nm:=⟨_,rfl⟩;rw[oF]at ey |-;have dd:=bJ.len;have bt:=bJ.lt;obtain⟨Z,RZ⟩:∃X,C++[bq.cells 0 [.s (.string ⟨#[]⟩),.s (.slice none 0 0),.s (.slice none 0 0)]]=X:=⟨_,rfl⟩;obtain⟨cb,h'⟩:∃X,C++[bq.cells 0 [.s (.string nm),.s (.slice none 0 0),.s (.slice none 0 0)]]=X:=⟨_,rfl⟩;have aBD:ao Z C.length 0=some [.s (.string ⟨#[]⟩),.s (.slice none 0 0),.s (.slice none 0 0)]:=RZ▸dz C 0 _
 have aAg:Z.set C.length (.cells 0 [.s (.string nm),.s (.slice none 0 0),.s (.slice none 0 0)])=cb:=by rw[<- RZ,ln,h']
 have e8:cb.length=C.length+1:=by rw[<- h',kw]
 have ee:Ext C cb:=h'▸Ext.app _ _
 have Kr:base<=C.length:=by omega
 obtain⟨pv,D,aF,aK⟩:=axz (ah:=ah) base Kr (bS _) aj (by omega) (u2:=.ref z2 0 0) (u3:=.ref z3 0 0) (fB:=.aB cQ cZ 0 ts.length 5) (u8:=.ref c1 0 0) (gD:=.s (.int .i64 b)) (l.drop 2) 2 [] bz cb rfl (by omega) (fa _) ⟨h'▸dz C 0 _,cp.start _ _ _,by omega,fun i hi=>ee.get hi,fun _=>rfl⟩
 have cX:=aK.len;have Co:=aK.row.rd.one
 have aFZ:(ep [] (l.drop 2)).length<2^63:=by
  have:=al9 (l.drop 2) [];rw[fJ,d9]at this;omega
 obtain⟨w,bY,f1,f2,f3,f4,f5⟩:=h8.start (base:=base) (D:=D) (nm:=nm) (ps:=ep [] (l.drop 2)) jr (by omega) dd (fun j _ br=>aK.ed j br) (by omega) Co (fun H' hh=>by
  have av:cp (C.length+1) 1 H' pv (fX (ep [] (l.drop 2))):=aK.row.bT fun i g n e=>by
   have J:=aK.row.lt i g n e
   have U:C.length+1<=i:=by have aCX:=aK.row;subst e;exact fS aCX
   exact hh i (by omega) J
  exact⟨(u' av).rd,nS.Er (u' av)⟩) aFZ aze bt.2.2.1
 have Du:∀j,j<L->bY[j]?=C[j]?:=fun j br=>by rw[f4 j br,aK.ed j (by omega)]
 have g8:ao D c1 0=some [cD]:=by
  have:=bJ.mG;unfold ao at this |-
  rw[aK.ed c1 (by omega)]
  exact this
 have T5:ao bY c1 0=some [cD]:=by
  have:=bJ.mG;unfold ao at this |-;rw[Du c1 bt.2.2.1];exact this
 obtain⟨E,bx⟩:∃X,bY.set c1 (.cells 0 [w])=X:=⟨_,rfl⟩;have f6:=f5 (.cells 0 [w]);rw[bx]at f6
 have q9:∀j,j≠c1->E[j]?=bY[j]?:=fun j br=>by rw[<- bx,cf (gG br)]
 have J7:E.length=bY.length:=by rw[<- bx,eF]
 have nW:∀i g c,i<L->i≠c1->ao C i g=some c->ao E i g=some c:=fun i g c hi Ci aa=>by
  unfold ao at aa |-;rw[q9 i Ci,Du i hi];exact aa
 refine⟨w,E,?_,f6,⟨nW _ _ _ bt.1 (gG bJ.ne.2.1) bJ.cV,nW _ _ _ bt.2.1 (gG bJ.ne.2.2.1) bJ.e9,bx▸e4 T5 _,nW _ _ _ bt.2.2.2 bJ.ne.2.2.2.1 bJ.pR,bt,bJ.ne,by omega,fun j br=>by have:=bJ.Ae;rw[q9 j (by omega),Du j (by omega),bJ.ed j br],bJ.Ae⟩⟩
 have sC:cD.one=true:=by
  obtain⟨R,aV,_⟩:=jr.rows;exact aV.rd.one
 have kX:=aK.box;have s9:=ym f2;have Sf:=ym Co;simp only[a7,bz]at f1;simp only[qm]at aF;have M7:((2:Nat):Int)=2:=rfl;rw[M7]at aF;simp only[pA,simprocAttr,xh,uM,jP,aM,q,e0,aoO,ea,ey,RZ,aBD,aAg,Kr,e8,aF,g8,kX,Co,f1,f2,s9,T5,bx,aBb,k7]
set_option maxHeartbeats 2000000 in
def aH4(aR:u0 ah)(base){L z2 z3 c1 cQ cZ ts C cD}(bJ:kx m0 b7 L z2 z3 c1 cQ cZ ts C cD)(aN:ts.length<2^38){a n b}(hS:a+n=b)(ds:b<ts.length){l}(ak:(ts.drop a).take n=l){kk kF kJ z'}(ar:Rd C kJ (lb.map a7))(hw:hF kJ){k ok}(al:bW l (cO lb) 0=(k,ok))(eQ:(ok&&k==n)=true):
 qZ 1 (aC (aU ah) aG base pA (au 273 [(2,.ref z2 0 0),(3,.ref z3 0 0),(5,.aB cQ cZ 0 ts.length 5),(8,.ref c1 0 0),(9,.s (.bool true)),(10,.s (.int .i64 a)),(11,.s (.int .i64 b)),(12,.aB cQ cZ (a*5) n 5),(13,z'),(14,kk),(15,kF),(16,kJ)]) C)=some (.bH,au 273 [(2,.ref z2 0 0),(3,.ref z3 0 0),(5,.aB cQ cZ 0 ts.length 5),(8,.ref c1 0 0),(9,.s (.bool false)),(10,.s (.int .i64 b))],C):=by
 have aj:=bJ.pR.Cz (a:=a) (n:=n) (by omega)
 rw[ak]at aj
 have qm:l.length=n:=by rw[<- ak,lG,fJ];omega
 have q:=yU aR.F base aj (by omega) ar hw (by decide)
 rw[show lb.map (fun b=>b.data.toList)=cO lb from rfl,al]at q;simp only[dr]at eQ;rw[eQ.1]at q;have fv:=rU k n;rw[eQ.2]at fv;have e0:∀X,h0 X .s (.aB cQ cZ (a*5) n 5)=some (.s (.int .i64 n)):=fun _=>rfl;simp only[pA,simprocAttr,xh,uM,jP,aM,q,e0,fv]
end
theorem h8.bv{L C cD gs nm ps bU}(h:h8 L C cD gs nm ps bU):∃id g dR pv bv,cD=.aB id g 0 (gs.length+1) 3/\ao C id g=some (dR++[a7 nm,pv,bv])/\dR.length=gs.length*3/\∀X,h0 X .s bv=some (.s (.int .i64 bU.length)):=by
 obtain⟨ej,id,g,R,pv,bv,K,e,J,U,ax,aY,cl,eM,ks,mR,oR,gm,vi,yV,tr⟩:=h.ex;obtain⟨iI,aV,b4,_⟩:=tr.rows
 refine⟨id,g,R.flatten,pv,bv,e,aY,by rw[xz R cl,eM],fun X=>?_⟩
 obtain⟨_,⟨aF,aK⟩|⟨i,g',aK,_⟩⟩:=aV
 .rw[aF]at b4;rw[aK,<- b4];rfl
 .rw[aK,<- b4];rfl
section
variable {ah:Nat->Option c7} {m0:Nat} {b7:az}
set_option maxHeartbeats 2000000 in
def arQ(aR:u0 ah)(base){L z2 z3 c1 cQ cZ ts C cD}(bJ:kx m0 b7 L z2 z3 c1 cQ cZ ts C cD)(aN:ts.length<2^38)(oT:base<=L){gs nm ps bU}(hJ:h8 L C cD gs nm ps bU)(ml:bU.length+1<2^21){a n b}(hS:a+n=b)(ds:b<ts.length){l}(ak:(ts.drop a).take n=l){kk kF kJ}(ar:Rd C kJ (lb.map a7))(hw:hF kJ)(xr:Rd C kF (nd.map a7))(uy:hF kF){iU k1 tV xi}(al:bW l (cO lb) 0=(iU,tV))(jf:(tV&&iU==n)=false)(CS:bW l (cO nd) 0=(k1,xi))(eQ:(xi&&k1==n)=true){t}(a1:l[0]?=some t):
 ∃D,qZ 1 (aC (aU ah) aG base pA (au 273 [(2,.ref z2 0 0),(3,.ref z3 0 0),(5,.aB cQ cZ 0 ts.length 5),(8,.ref c1 0 0),(9,.s (.bool true)),(10,.s (.int .i64 a)),(11,.s (.int .i64 b)),(12,.aB cQ cZ (a*5) n 5),(13,.s (.int .i64 gs.length)),(14,kk),(15,kF),(16,kJ)]) C)=some (.bH,au 273 [(2,.ref z2 0 0),(3,.ref z3 0 0),(5,.aB cQ cZ 0 ts.length 5),(8,.ref c1 0 0),(9,.s (.bool true)),(10,.s (.int .i64 b))],D)/\h8 L D cD gs nm ps (bU++[⟨⟨t.text.toArray⟩,[]⟩])/\kx m0 b7 L z2 z3 c1 cQ cZ ts D cD:=by
 have aj:=bJ.pR.Cz (a:=a) (n:=n) (by omega)
 rw[ak]at aj
 have qm:l.length=n:=by rw[<- ak,lG,fJ];omega
 have q:=yU aR.F base aj (by omega) ar hw (by decide)
 rw[show lb.map (fun b=>b.data.toList)=cO lb from rfl,al]at q
 have bp:=yU aR.F base aj (by omega) xr uy (by decide)
 rw[show nd.map (fun b=>b.data.toList)=cO nd from rfl,CS]at bp;simp only[dr]at eQ;rw[eQ.1]at bp;have fv:=rU k1 n;rw[eQ.2]at fv;have R7:=rU iU n
 have HV:(bif tV then(((iU:Nat):Int)==((n:Nat):Int))else false)=false:=by
  rw[R7];cases tV<;>simp_all
 have e0:∀X,h0 X .s (.aB cQ cZ (a*5) n 5)=some (.s (.int .i64 n)):=fun _=>rfl;obtain⟨D,aAH,f1,f2,f3⟩:=aHa (ah:=ah) base hJ oT bJ.mG bJ.lt.2.2.1 (u2:=.ref z2 0 0) (u3:=.ref z3 0 0) (fB:=.aB cQ cZ 0 ts.length 5) (gI:=.s (.bool true)) (hM:=.s (.int .i64 a)) (gD:=.s (.int .i64 b)) (qH:=.s (.int .i64 iU)) (Gw:=.s (.int .i64 k1)) aj a1 ml;refine⟨D,?_,f1,bJ.bT f2 f3⟩;simp only[pA,simprocAttr,xh,uM,jP,aM,q,bp,e0,fv,HV,aAH]
def aFq(base){C bv}(ds:∀X,h0 X .s bv=some (.s (.int .i64 ((0:Nat):Int)))){u2 u3 fB u8 gI hM gD pv f26 qH}(al:ga 2 Mb C f26 fq):
 aG (aC (aU ah) aG base y7) [] C.length (au 273 [(2,u2),(3,u3),(5,fB),(8,u8),(9,gI),(10,hM),(11,gD),(12,pv),(21,qH),(24,bv),(25,.s (.bool false)),(26,f26),(27,.s (.int .i64 0))]) C=some (.ext 6,au 273 [(2,u2),(3,u3),(5,fB),(8,u8),(9,gI),(10,hM),(11,gD),(12,pv),(21,qH),(24,bv),(25,.s (.bool false)),(26,f26),(27,.s (.int .i64 0)),(205,.s (.bool false))],C):=by
 have ei:=al.len;rw[show fq.length=16 from rfl]at ei;have aO:∀fr,trim C.length fr C=C:=fun fr=>Aa rfl
 have bt:((0:Int)<((16:Nat):Int)):=by omega
 have a1:¬(((0:Nat):Int) > 0):=by omega
 rw[eo];simp only[jP,simprocAttr,aM,ei,bt,ds,gt_iff_lt,nq,aO]
set_option maxHeartbeats 2000000 in
def auh(aR:u0 ah)(base:Nat){L z2 z3 c1 cQ cZ:Nat}{ts C cD}(bJ:kx m0 b7 L z2 z3 c1 cQ cZ ts C cD)(aN:ts.length<2^38)(fM:base<=z2/\base<=z3)(oT:base<=L){gs nm ps bU}(hJ:h8 L C cD gs nm ps bU)(ml:bU.length<2^21)(EY:∀b∈bU,b.code.length+1<2^21){a n b:Nat}(hS:a+n=b)(ds:b<ts.length){l}(ak:(ts.drop a).take n=l){kk kF kJ}(ar:Rd C kJ (lb.map a7))(hw:hF kJ)(xr:Rd C kF (nd.map a7))(uy:hF kF){iU k1:Nat}{tV xi}(al:bW l (cO lb) 0=(iU,tV))(jf:(tV&&iU==n)=false)(CS:bW l (cO nd) 0=(k1,xi))(aKj:(xi&&k1==n)=false)(dv:∀f∈fq,((bW l (cO f.2) 0).2&&(bW l (cO f.2) 0).1==l.length)=true->zp f.1 (f.2.getD 0 ⟨#[]⟩).data.toList (ep [] l)):
 match(if bU=[]then .inr (max iU k1)else j5 l fq (max iU k1))with
  |.inl f=>∃D,qZ 1 (aC (aU ah) aG base pA (au 273 [(2,.ref z2 0 0),(3,.ref z3 0 0),(5,.aB cQ cZ 0 ts.length 5),(8,.ref c1 0 0),(9,.s (.bool true)),(10,.s (.int .i64 a)),(11,.s (.int .i64 b)),(12,.aB cQ cZ (a*5) n 5),(13,.s (.int .i64 gs.length)),(14,kk),(15,kF),(16,kJ)]) C)=some (.bH,au 273 [(2,.ref z2 0 0),(3,.ref z3 0 0),(5,.aB cQ cZ 0 ts.length 5),(8,.ref c1 0 0),(9,.s (.bool true)),(10,.s (.int .i64 b))],D)/\h8 L D cD gs nm ps (oJ bU (qR f.1 (f.2.getD 0 ⟨#[]⟩).data.toList (ep [] l) (gO 0 l)))/\kx m0 b7 L z2 z3 c1 cQ cZ ts D cD
  |.inr be=>∀e,ts[a+be]?=some e->a+be<2^39->∃D cb,qZ 1 (aC (aU ah) aG base pA (au 273 [(2,.ref z2 0 0),(3,.ref z3 0 0),(5,.aB cQ cZ 0 ts.length 5),(8,.ref c1 0 0),(9,.s (.bool true)),(10,.s (.int .i64 a)),(11,.s (.int .i64 b)),(12,.aB cQ cZ (a*5) n 5),(13,.s (.int .i64 gs.length)),(14,kk),(15,kF),(16,kJ)]) C)=some (.ret,au 273 [(2,.ref z2 0 0),(3,.ref z3 0 0),(4,.s (.int .i64 (if e.kind=4 then 41 else 40:Nat)))],D)/\Ext C cb/\zx L z2 z3 e cb D:=by
 have aj:=bJ.pR.Cz (a:=a) (n:=n) (by omega)
 rw[ak]at aj
 have qm:l.length=n:=by rw[<- ak,lG,fJ];omega
 have q:=yU aR.F base aj (by omega) ar hw (by decide)
 rw[show lb.map (fun b=>b.data.toList)=cO lb from rfl,al]at q
 have bp:=yU aR.F base aj (by omega) xr uy (by decide)
 rw[show nd.map (fun b=>b.data.toList)=cO nd from rfl,CS]at bp;have fv:=rU k1 n;have R7:=rU iU n
 have HV:(bif tV then(((iU:Nat):Int)==((n:Nat):Int))else false)=false:=by
  rw[R7];cases tV<;>simp_all
 have Tm:(bif xi then(((k1:Nat):Int)==((n:Nat):Int))else false)=false:=by
  rw[fv];cases xi<;>simp_all
 have e0:∀X,h0 X .s (.aB cQ cZ (a*5) n 5)=some (.s (.int .i64 n)):=fun _=>rfl;have dd:=bJ.len
 obtain⟨f26,cb,Na,Bp,qg⟩:=aB8 aR.OB base (A:=C) (by omega)
 have bA:=Bp.le
 have FF:kx m0 b7 L z2 z3 c1 cQ cZ ts cb cD:=bJ.bT (fun j br=>Bp.get (by omega)) bA
 have aqC:h8 L cb cD gs nm ps bU:=hJ.bT (fun j _ br=>Bp.get br) bA;have nh:=aj.ext Bp;obtain⟨id,g,dR,kZ,bv,e,g1,g2,g3⟩:=hJ.bv;have ayK:=df g1 Bp;have pS:=akU g1 g2;have A4:=anN (id:=id) (g:=g) (N:=gs.length);have ft:=WD iU k1;have DJ:=bJ.mG;rw[e]at DJ;have KW:=fM.1;have J1:=fM.2;by_cases a1:bU=[]
 .rw[a' a1];intro bw zY Ke;subst a1;have e8:=aFq (ah:=ah) base (C:=cb) (u2:=.ref z2 0 0) (u3:=.ref z3 0 0) (fB:=.aB cQ cZ 0 ts.length 5) (u8:=.ref c1 0 0) (gI:=.s (.bool true)) (hM:=.s (.int .i64 a)) (gD:=.s (.int .i64 b)) (pv:=.aB cQ cZ (a*5) n 5) (qH:=.s (.int .i64 (max iU k1:Nat))) g3 qg
  obtain⟨W,D,aV,b4,dJ,eO,hY,oK⟩:=Lx aR base FF (by omega) bw
  obtain⟨i1,aw1,cn,ea,ey,_⟩:=FF.pR.all.at zY
  have HR:IntKind.i64.wrap ((a:Int)+((max iU k1:Nat):Int))=((a+max iU k1:Nat):Int):=by rw[IntKind.wrap_i64];omega
  refine⟨D,cb,?_,Bp,oK⟩;simp only[pA,simprocAttr,xh,uM,jP,aM,q,bp,e0,HV,Tm,ft,DJ,A4,pS,Na,e8,HR,ea,ey,aV,b4,dJ,eO,hY,KW,J1,k7]
 .rw[bm a1];obtain⟨dj,lv,rfl⟩:∃dj lv,bU=dj++[lv]:=⟨bU.dropLast,bU.getLast a1,(QT a1).symm⟩
  have e8:=avP (ah:=ah) aR base aqC oT (by omega) ⟨id,g,dR,kZ,e,ayK,g2⟩ (by rw[fU]at ml;omega) nh (by omega) qg dv (EY lv (by simp)) fq 0 (max iU k1) rfl (by omega) (u2:=.ref z2 0 0) (u3:=.ref z3 0 0) (fB:=.aB cQ cZ 0 ts.length 5) (u8:=.ref c1 0 0) (gI:=.s (.bool true)) (hM:=.s (.int .i64 a)) (gD:=.s (.int .i64 b))
  revert e8;cases j5 l fq (max iU k1)with
  |inl f=>
    rintro⟨D,qH,bC,bP,dk,eC⟩;refine⟨D,?_,bP,FF.bT dk eC⟩;rw[rD]at bC;simp only[pA,simprocAttr,xh,uM,jP,aM,q,bp,e0,HV,Tm,ft,DJ,A4,pS,Na,bC]
  |inr be=>
    intro bC bw zY Ke;replace bC:aG _ _ _ _ _=_:=bC;rw[rD]at bC
    obtain⟨W,D,aV,b4,dJ,eO,hY,oK⟩:=Lx aR base FF (by omega) bw
    obtain⟨i1,aw1,cn,ea,ey,_⟩:=FF.pR.all.at zY
    have HR:IntKind.i64.wrap ((a:Int)+((be:Nat):Int))=((a+be:Nat):Int):=by rw[IntKind.wrap_i64];omega
    refine⟨D,cb,?_,Bp,oK⟩;simp only[pA,simprocAttr,xh,uM,jP,aM,q,bp,e0,HV,Tm,ft,DJ,A4,pS,Na,bC,HR,ea,ey,aV,b4,dJ,eO,hY,KW,J1,k7]
end
def tP(ts:List Tok.T)(gs:List hv)(cur:Option hv)(a:Nat)(t:Tok.T):Except Nat (List hv × Option hv × Nat):=
 let n:=h3 t.line (ts.drop (a+1))+1
 let l:=(ts.drop a).take n
 match cur with
 |none=>if(!(bW l (cO lD) 0).2||decide ((bW l (cO lD) 0).1<n))=true then .error (a+(bW l (cO lD) 0).1)else .ok (gs,some ⟨⟨(l.getD 1 cU).text.toArray⟩,ep [] (l.drop 2),[]⟩,a+n)
 |some f=>
   if((bW l (cO lb) 0).2&&(bW l (cO lb) 0).1==n)=true then .ok (gs++[f],none,a+n)
   else if((bW l (cO nd) 0).2&&(bW l (cO nd) 0).1==n)=true then .ok (gs,some ⟨f.name,f.ps,f.blocks++[⟨⟨(l.getD 0 cU).text.toArray⟩,[]⟩]⟩,a+n)
   else match(if f.blocks=[]then .inr (max (bW l (cO lb) 0).1 (bW l (cO nd) 0).1)else j5 l fq (max (bW l (cO lb) 0).1 (bW l (cO nd) 0).1))with
    |.inl g=>.ok (gs,some ⟨f.name,f.ps,oJ f.blocks (qR g.1 (g.2.getD 0 ⟨#[]⟩).data.toList (ep [] l) (gO 0 l))⟩,a+n)
    |.inr be=>.error (a+be)
def jF(ts:List Tok.T):Nat->List hv->Option hv->Nat->Except Nat (List hv)
 |0,_,_,a=>.error a
 |n+1,gs,cur,a=>
   if(ts.getD a cU).kind=4 then(if cur.isSome=true then .error a else .ok gs)
   else match tP ts gs cur a (ts.getD a cU)with
    |.error e=>.error e
    |.ok (w2,tB,b)=>jF ts n w2 tB b
def adE(l:List Tok.T):Prop:=∀f∈fq,((bW l (cO f.2) 0).2&&(bW l (cO f.2) 0).1==l.length)=true->zp f.1 (f.2.getD 0 ⟨#[]⟩).data.toList (ep [] l)
def LK(ts:List Tok.T):Prop:=∀(a:Nat) (t:Tok.T),ts[a]?=some t->t.kind≠4->adE ((ts.drop a).take (h3 t.line (ts.drop (a+1))+1))
def DZ(l:List Tok.T):Prop:=(bW l (cO lD) 0).2=true->2<=l.length
def av1{l}:∀(bG:List (Nat × List ByteArray)) {b be:Nat},j5 l bG b=.inr be->b<=l.length->be<=l.length:=by
 intro bG
 induction bG with
 |nil=>intro b be h af;cases h;exact af
 |cons f bG aw=>
   intro b be h af;rw[j5]at h;split at h
   .cases h
   .have:=F' (l:=l) (cO f.2) (a:=0) (fa _)
    exact aw h (by omega)
def Inv(L:Nat)(C:az)(cD:V)(gs:List hv):Option hv->Prop
 |none=>j3 L C cD gs
 |some f=>h8 L C cD gs f.name f.ps f.blocks
def Qa(cur:Option hv)(a:Nat):Prop:=∀f,cur=some f->f.blocks.length<=a/\∀b∈f.blocks,b.code.length<=a
def Inv.cj{L c1 C cD gs cur}(h:Inv L C cD gs cur)(b5:c1<L)(mR:ao C c1 0=some [cD])(fr):Inv L (trim L fr C) cD gs cur:=by
 rcases B5 L fr C with e|⟨_,_,e⟩
 .rw[e];exact h
 .have key:∀i g n,cD=.aB i g 0 n 3->L<=i->False:=fun i g n aF J=>by
   have:=e c1 0 _ b5 mR i g 0 n 3 (by rw[aF];simp)
   omega
  cases cur with
  |none=>
    obtain⟨R,aV,b4,dJ⟩:=j3.rows h
    obtain⟨_,⟨aF,aK⟩|⟨i,g,aK,_,k⟩⟩:=aV
    .rw[aF]at b4
     have:gs=[]:=lO (by rw[<- b4];rfl)
     subst this;rw[aK];exact j3.start _ _
    .exact(key i g _ aK k).elim
  |some f=>
    obtain⟨ej,id,g,R,pv,bv,K,aF,J,_⟩:=h8.ex h;exact(key id g _ aF J).elim
section
variable {ah:Nat->Option c7} {m0:Nat} {b7:az}
def Inv.len{L C cD gs cur}(h:Inv L C cD gs cur):∃p6,h0 C .s cD=some (.s (.int .i64 (p6:Nat)))/\p6<=gs.length+1/\(cur.isSome=true->p6=gs.length+1):=by
 cases cur with
 |none=>
   obtain⟨R,aV,b4,dJ⟩:=j3.rows h;have:=aV.rd.len
   exact⟨R.length,this,by omega,fun h=>by cases h⟩
 |some f=>
   obtain⟨ej,id,g,R,pv,bv,K,aF,J,_⟩:=h8.ex h
   exact⟨gs.length+1,by rw[aF];rfl,bS _,fun _=>rfl⟩
set_option maxHeartbeats 2000000 in
def ate(aR:u0 ah)(base){L z2 z3 c1 cQ cZ ts C cD}(bJ:kx m0 b7 L z2 z3 c1 cQ cZ ts C cD)(bx:te ts)(aN:ts.length<2^20)(af:base<=z2/\base<=z3/\base<=c1){gs cur}(lp:Inv L C cD gs cur){a t}(a1:ts[a]?=some t)(aY:t.kind≠4)(aaK:gs.length<=a)(M1:Qa cur a)(C2:LK ts)(FC:∀l,DZ l):
 match tP ts gs cur a t with
  |.error e=>∃w,ts[e]?=some w/\∃D,aC (aU ah) aG base sr (au 273 [(2,.ref z2 0 0),(3,.ref z3 0 0),(5,.aB cQ cZ 0 ts.length 5),(8,.ref c1 0 0),(9,.s (.bool cur.isSome)),(10,.s (.int .i64 a))]) C=some (.ret,au 273 [(2,.ref z2 0 0),(3,.ref z3 0 0),(4,.s (.int .i64 (if w.kind=4 then 41 else 40:Nat)))],D)/\zx L z2 z3 w C D
  |.ok (w2,tB,b)=>a<b/\b<ts.length/\w2.length<=b/\Qa tB b/\∃yf D,aC (aU ah) aG base sr (au 273 [(2,.ref z2 0 0),(3,.ref z3 0 0),(5,.aB cQ cZ 0 ts.length 5),(8,.ref c1 0 0),(9,.s (.bool cur.isSome)),(10,.s (.int .i64 a))]) C=some (.bH,au 273 [(2,.ref z2 0 0),(3,.ref z3 0 0),(5,.aB cQ cZ 0 ts.length 5),(8,.ref c1 0 0),(9,.s (.bool tB.isSome)),(10,.s (.int .i64 b))],D)/\Inv L D yf w2 tB/\kx m0 b7 L z2 z3 c1 cQ cZ ts D yf:=by
 obtain⟨n,JI⟩:∃n,h3 t.line (ts.drop (a+1))+1=n:=⟨_,rfl⟩;obtain⟨b,hS⟩:∃b,a+n=b:=⟨_,rfl⟩;obtain⟨l,ak⟩:∃l,(ts.drop a).take n=l:=⟨_,rfl⟩;obtain⟨p6,g1,g2,g3⟩:=lp.len;have Cc:=(cC.1 a1).1
 obtain⟨bF,kk,kF,kJ,aF,eG,CN,YY,F6,XO,El,NH,ds⟩:=aw8 (ah:=ah) base bJ bx (by omega) a1 aY g1 (by omega) (w:=cur.isSome) JI hS
 have DQ:kx m0 b7 L z2 z3 c1 cQ cZ ts bF cD:=bJ.bT (fun j br=>eG.get (by have:=bJ.len;omega)) eG.le
 have qm:l.length=n:=by rw[<- ak,lG,fJ];omega
 have aI4:1<=n:=by omega
 have acB:∀{w:Tok.T} {cb D:az},Ext C cb->zx L z2 z3 w cb D->zx L z2 z3 w C D:=fun {w cb D} x ⟨cn,dK,iE,yo⟩=>⟨cn,dK,by have:=x.le;omega,fun j br KF=>by rw[yo j br KF,x.get (by have:=bJ.len;omega)]⟩
 unfold tP;rw[JI];dsimp only;rw[ak,hS];cases cur with
 |none=>
   dsimp only;obtain⟨⟨k,ok⟩,an⟩:∃p,bW l (cO lD) 0=p:=⟨_,rfl⟩;have hI:=F' (l:=l) (cO lD) (a:=0) (fa _);have bu:=FC l;unfold DZ at bu;rw[an]at hI bu |-;dsimp only at hI bu |-
   by_cases qA:(!ok||decide (k<n))=true
   .rw[a' qA]
    obtain⟨w,hw⟩:∃w,ts[a+k]?=some w:=⟨_,dy (by omega)⟩
    obtain⟨D,d1,d2⟩:=aFP aR base DQ (by omega) ⟨af.1,af.2.1⟩ hS ds ak CN YY an qA hw (kF:=kF) (kJ:=kJ) (z':=.s (.int .i64 ((p6:Int)-1)))
    refine⟨w,hw,D,?_,acB eG d2⟩;rw[aF,show(none:Option hv).isSome=false from rfl,d1];rfl
   .rw[bm qA]
    have eQ:ok=true/\¬k<n:=by
     simp only[jq,xy,lm,zU,aDt]at qA;exact qA
    have QP:=bu eQ.1
    obtain⟨e,he⟩:∃e,l[1]?=some e:=⟨_,dy (by omega)⟩
    have GX:j3 L bF cD gs:=j3.bT lp (fun j _ br=>eG.get br) eG.le
    obtain⟨w,D,d1,d2,d3⟩:=az9 aR base DQ (by omega) af.2.2 GX (by omega) hS ds ak CN YY an eQ he (by omega) (kF:=kF) (kJ:=kJ) (z':=.s (.int .i64 ((p6:Int)-1)))
    refine⟨by omega,ds,by omega,?_,w,D,?_,?_,d3⟩
    .intro f al;cases al
     exact⟨fa _,fun b af=>by cases af⟩
    .rw[aF,show(none:Option hv).isSome=false from rfl,d1];rfl
    .rw[mI,he];exact d2
 |some f=>
   have aqG:=g3 rfl;have S':h8 L bF cD gs f.name f.ps f.blocks:=h8.bT lp (fun j _ br=>eG.get br) eG.le
   rw[aqG,show(((gs.length+1:Nat):Int)-1)=((gs.length:Nat):Int) by omega]at aF
   obtain⟨jk,fM⟩:=M1 f rfl;dsimp only;obtain⟨⟨iU,tV⟩,Gp⟩:∃p,bW l (cO lb) 0=p:=⟨_,rfl⟩;obtain⟨⟨k1,xi⟩,pE⟩:∃p,bW l (cO nd) 0=p:=⟨_,rfl⟩;have agZ:=F' (l:=l) (cO lb) (a:=0) (fa _);have Vd:=F' (l:=l) (cO nd) (a:=0) (fa _);rw[Gp]at agZ;rw[pE]at Vd;rw[Gp,pE];dsimp only at agZ Vd |-;by_cases dR:(tV&&iU==n)=true
   .rw[a' dR]
    have d1:=aH4 aR base DQ (by omega) hS ds ak El NH Gp dR (kk:=kk) (kF:=kF) (z':=.s (.int .i64 gs.length))
    refine⟨by omega,ds,by rw[fU,bi];omega,fun f al=>(by cases al),cD,bF,?_,h8.done S',DQ⟩
    rw[aF,show(some f).isSome=true from rfl,d1];rfl
   .rw[bm dR];rw[nz]at dR;by_cases cq:(xi&&k1==n)=true
    .rw[a' cq]
     obtain⟨t0,ZP⟩:∃e,l[0]?=some e:=⟨_,dy (by omega)⟩
     obtain⟨D,d1,d2,d3⟩:=arQ aR base DQ (by omega) (by have:=bJ.lt;omega) S' (by omega) hS ds ak El NH F6 XO Gp dR pE cq ZP (kk:=kk)
     refine⟨by omega,ds,by omega,?_,cD,D,?_,?_,d3⟩
     .intro eU qj;cases qj
      refine⟨by rw[fU,bi];omega,fun b' fY=>?_⟩
      rcases l1.1 fY with fY | fY
      .have:=fM b' fY;omega
      .rw[fj]at fY;subst fY;exact fa _
     .rw[aF,show(some f).isSome=true from rfl,d1];rfl
     .rw[mI,ZP];exact d2
    .rw[bm cq];rw[nz]at cq
     have q:=auh aR base DQ (by omega) ⟨af.1,af.2.1⟩ (by have:=bJ.lt;omega) S' (by omega) (fun b af=>by have:=fM b af;omega) hS ds ak El NH F6 XO Gp dR pE cq (by have q:=C2 a t a1 aY;rw[JI,ak]at q;exact q) (kk:=kk)
     have H4:∀be,(if f.blocks=[]then .inr (max iU k1)else j5 l fq (max iU k1):Sum (Nat × List ByteArray) Nat)=.inr be->be<=l.length:=fun be h=>by
      split at h
      .cases h;omega
      .exact av1 _ h (by omega)
     revert q H4
     cases(if f.blocks=[]then .inr (max iU k1)else j5 l fq (max iU k1):Sum (Nat × List ByteArray) Nat)with
     |inl g=>
       rintro⟨D,d1,d2,d3⟩ _
       refine⟨by omega,ds,by omega,?_,cD,D,?_,d2,d3⟩
       .intro eU qj;cases qj;by_cases ml:f.blocks=[]
        .rw[ml]
         exact⟨fa _,fun b af=>by cases af⟩
        .obtain⟨dj,lv,he⟩:∃dj lv,f.blocks=dj++[lv]:=⟨f.blocks.dropLast,f.blocks.getLast ml,(QT ml).symm⟩;rw[he,KK];rw[he]at jk fM
         refine⟨by rw[fU,bi]at jk |-;omega,fun b' fY=>?_⟩
         rcases l1.1 fY with fY | fY
         .have:=fM b' (lH _ fY);omega
         .rw[fj]at fY;subst fY
          have:=fM lv (by simp)
          show(lv.code++[_]).length<=b;rw[fU,bi];omega
       .rw[aF,show(some f).isSome=true from rfl,d1];rfl
     |inr be=>
       intro q H4;have:=H4 be rfl
       obtain⟨w,hw⟩:∃w,ts[a+be]?=some w:=⟨_,dy (by omega)⟩
       obtain⟨D,cb,d1,d2,d3⟩:=q w hw (by omega)
       refine⟨w,hw,D,?_,acB (eG.trans d2) d3⟩;rw[aF,show(some f).isSome=true from rfl,d1]
end
def q5(t:Tok.T):Prop:=(t.kind=1->∃c s,t.text=c::s/\Tok.letter c=true)/\(t.kind=3->∃c,t.text=[c]/\Tok.sign c=true)
def asH:∀(n:Nat) (l:List UInt8) (a6 aZ:Nat) (ts:List Tok.T),l.length<=n->Tok.lex l a6 aZ=.done ts->∀t∈ts,q5 t:=by
 intro n
 have e3:∀a6 aZ,q5 ⟨4,[],0,a6,aZ⟩:=fun a6 aZ=>⟨fun h=>(by cases h),fun h=>(by cases h)⟩
 induction n with
 |zero=>
   intro l a6 aZ ts h e
   obtain rfl:l=[]:=lO (by omega)
   rw[Tok.lex_nil]at e;cases e;intro t aO;rw[fj]at aO;subst aO;exact e3 _ _
 |succ n aw=>
   intro l a6 aZ ts h e;cases l with
   |nil=>
     rw[Tok.lex_nil]at e;cases e;intro t aO;rw[fj]at aO;subst aO;exact e3 _ _
   |cons c l=>
     have ak:l.length<=n:=by simpa using h
     have aQ:∀m,(l.drop m).length<=n:=fun m=>by rw[fJ];omega
     rw[Tok.sq]at e;split at e
     .split at e
      .exact aw _ _ _ _ ak e
      .exact aw _ _ _ _ ak e
     .split at e
      .exact aw _ _ _ _ (aQ _) e
      .split at e
       .rename_i oQ;obtain⟨us,aF,rfl⟩:=Tok.ys e;intro t aO
        rcases kf.1 aO with rfl|aO
        .exact⟨fun _=>⟨c,_,rfl,oQ⟩,fun h=>by cases h⟩
        .exact aw _ _ _ _ (aQ _) aF t aO
       .split at e
        .split at e
         .cases e
         .obtain⟨us,aF,rfl⟩:=Tok.ys e;intro t aO
          rcases kf.1 aO with rfl|aO
          .exact⟨fun h=>(by cases h),fun h=>by cases h⟩
          .exact aw _ _ _ _ (aQ _) aF t aO
        .split at e
         .rename_i aq;obtain⟨us,aF,rfl⟩:=Tok.ys e;intro t aO
          rcases kf.1 aO with rfl|aO
          .exact⟨fun h=>(by cases h),fun _=>⟨c,rfl,aq⟩⟩
          .exact aw _ _ _ _ ak aF t aO
         .cases e
theorem axT{t}(h:q5 t){c s}(aa:Tok.letter c=true):((t.kind==1||t.kind==3)&&t.text==c::s)=(t.kind==1&&t.text==c::s):=by
 cases ax:t.kind==3 with
 |false=>rw[uE]
 |true=>
   rw[B8,px,eq_of_beq ax];obtain⟨d,e,aq⟩:=h.2 (eq_of_beq ax)
   have aQ:¬(Tok.letter d=true/\Tok.sign d=true):=by
    rintro⟨J,U⟩;simp only[Tok.sign,jq,cG]at U
    rcases U with(((((((U|U)|U)|U)|U)|U)|U)|U)|U<;>rw[U]at J<;>exact absurd J (by decide)
   have:(t.text==c::s)=false:=by
    rw[eZ,e];intro he;cases he;exact aQ ⟨aa,aq⟩
   rw[this];rfl
theorem aHm{t}(h:q5 t){c}(aa:Tok.sign c=true):((t.kind==1||t.kind==3)&&t.text==[c])=(t.kind==3&&t.text==[c]):=by
 cases J:t.kind==1 with
 |false=>rw[o5]
 |true=>
   rw[tU,px,eq_of_beq J];obtain⟨d,s,e,aq⟩:=h.1 (eq_of_beq J)
   have aQ:¬(Tok.letter d=true/\Tok.sign d=true):=by
    rintro⟨J,U⟩;simp only[Tok.sign,jq,cG]at U
    rcases U with(((((((U|U)|U)|U)|U)|U)|U)|U)|U<;>rw[U]at J<;>exact absurd J (by decide)
   have:(t.text==[c])=false:=by
    rw[eZ,e];intro he;cases he;exact aQ ⟨aq,aa⟩
   rw[this];rfl
def aEr{l}(h:∀t∈l,q5 t){c s}(aa:Tok.letter c=true)(i):yx l i (c::s)=cT l i 1 (c::s):=by
 unfold yx cT;cases aO:l[i]? with
 |none=>rfl
 |some t=>
   dsimp only;rw[axT (h t (hR aO)) aa,show((c::s:List UInt8)==[])=false from rfl,o5]
def aBC{l}(h:∀t∈l,q5 t){c}(aa:Tok.sign c=true)(i):yx l i [c]=cT l i 3 [c]:=by
 unfold yx cT;cases aO:l[i]? with
 |none=>rfl
 |some t=>
   dsimp only;rw[aHm (h t (hR aO)) aa,show(([c]:List UInt8)==[])=false from rfl,o5]
def api:∀(l:List Tok.T) (bk:List ByteArray),ep bk l=bk++ep [] l:=by
 intro l
 induction l with
 |nil=>intro bk;rw[ep,ep,vC]
 |cons t l aw=>
   intro bk
   rw[ep,aw,ep,aw (if t.kind=1 then[]++[_]else[])]
   split
   .rw[km,kG]
   .rw[km]
def awI(a6):∀(l:List Tok.T),(∀i,i<h3 a6 l->∃t,l[i]?=some t/\t.kind≠4/\t.line=a6)/\∀t,l[h3 a6 l]?=some t->t.kind=4\/t.line≠a6:=by
 intro l
 induction l with
 |nil=>exact⟨fun i hi=>absurd hi (K4 _),fun t h=>by cases h⟩
 |cons t l aw=>
   rw[h3];by_cases h:t.kind=4\/t.line≠a6
   .rw[a' h]
    exact⟨fun i hi=>absurd hi (K4 _),fun jt aO=>by cases aO;exact h⟩
   .rw[bm h];have lh:=h;rw[zU,GF]at lh;refine⟨fun i hi=>?_,fun jt aO=>aw.2 jt aO⟩;cases i with
    |zero=>exact⟨t,rfl,lh.1,lh.2⟩
    |succ i=>exact aw.1 i (by omega)
structure Piece (ts:List Tok.T) (a n:Nat) (l:List Tok.T):Prop where
 l:(ts.drop a).take n=l
 pos:0<n
 le:a+n<ts.length
 same:∀i,0<i->i<n->(aJ.of ts).same (a+i)=true
 last:(aJ.of ts).same (a+n)=false\/(aJ.of ts).kind (a+n)=4
 hs:∀i,i<n->(aJ.of ts).kind (a+i)≠4
 mh:∀t∈ts,q5 t
def KY{ts}(bx:te ts)(mh:∀t∈ts,q5 t){a t}(a1:ts[a]?=some t)(aY:t.kind≠4):Piece ts a (h3 t.line (ts.drop (a+1))+1) ((ts.drop a).take (h3 t.line (ts.drop (a+1))+1)):=by
 have aD:=bx a t a1 aY;have hI:=Yf bx t.line _ (a+1) rfl aD;obtain⟨s1,s2⟩:=awI t.line (ts.drop (a+1))
 have lC:∀i,i<h3 t.line (ts.drop (a+1))+1->∃u,ts[a+i]?=some u/\u.kind≠4/\u.line=t.line:=fun i hi=>by
  cases i with
  |zero=>exact⟨t,a1,aY,rfl⟩
  |succ i=>
    obtain⟨u,gy,u2,u3⟩:=s1 i (by omega)
    rw[h4]at gy
    exact⟨u,by rw[show a+(i+1)=a+1+i by omega];exact gy,u2,u3⟩
 have C5:∀{i:Nat} {u:Tok.T},ts[i]?=some u->ts.getD i cU=u:=fun h=>by rw[mI,h];rfl
 refine⟨rfl,Nat.succ_pos _,by omega,fun i i1 i2=>?_,?_,fun i hi=>?_,mh⟩
 .obtain⟨u,gy,u2,u3⟩:=lC i i2
  obtain⟨v,v1,v2,v3⟩:=lC (i-1) (by omega)
  show(decide (a+i > 0)&&(ts.getD (a+i-1) cU).line==(ts.getD (a+i) cU).line)=true
  rw[C5 gy,show a+i-1=a+(i-1) by omega,C5 v1,u3,v3,u1 (by omega),lz]
  rfl
 .obtain⟨v,v1,v2,v3⟩:=lC (h3 t.line (ts.drop (a+1))) (by omega)
  have hu:ts[a+(h3 t.line (ts.drop (a+1))+1)]?=some (ts.getD (a+(h3 t.line (ts.drop (a+1))+1)) cU):=by
   rw[mI,dy (by omega)]
   rfl
  rcases s2 _ (by rw[h4,show a+1+h3 t.line (ts.drop (a+1))=a+(h3 t.line (ts.drop (a+1))+1) by omega];exact hu)with e|e
  .exact .inr e
  .left;show(decide (a+(h3 t.line (ts.drop (a+1))+1) > 0)&&(ts.getD (a+(h3 t.line (ts.drop (a+1))+1)-1) cU).line==(ts.getD (a+(h3 t.line (ts.drop (a+1))+1)) cU).line)=false
   rw[show a+(h3 t.line (ts.drop (a+1))+1)-1=a+h3 t.line (ts.drop (a+1)) by omega,C5 v1,v3]
   have:(t.line==((ts.getD (a+(h3 t.line (ts.drop (a+1))+1)) cU).line))=false:=by rw[eZ];exact fun bw=>e bw.symm
   rw[this,wu]
 .obtain⟨u,gy,u2,_⟩:=lC i hi;show(ts.getD (a+i) cU).kind≠4;rw[C5 gy];exact u2
section
variable {ts:List Tok.T} {a n:Nat} {l:List Tok.T}
def Piece.len(h:Piece ts a n l):l.length=n:=by
 have:=h.le;rw[<- h.l,lG,fJ];omega
theorem Piece.at(h:Piece ts a n l){i}(hi:i<n):l[i]?=some (ts.getD (a+i) cU):=by
 have:=h.le
 rw[<- h.l,iB hi,h4,mI,dy (by omega)]
 rfl
def Piece.xk(h:Piece ts a n l):∀t∈l,q5 t:=fun t aO=>h.mh t (LA (HD (h.l▸aO)))
theorem Piece.wd(h:Piece ts a n l){i}(a1:0<i)(hi:i<=n){k}(an:k≠4)(s):cT l i k s=(((aJ.of ts).same (a+i)&&(aJ.of ts).kind (a+i)==k)&&(s==[]||(aJ.of ts).text (a+i)==s)):=by
 unfold cT;by_cases h9:i<n
 .rw[h.at h9,h.same i a1 h9];rfl
 .obtain rfl:i=n:=by omega
  rw[mm (by rw[h.len];exact bS _)]
  dsimp only
  rcases h.last with e|e
  .rw[e];rfl
  .have:((aJ.of ts).kind (a+i)==k)=false:=by rw[e,eZ];exact fun e=>an e.symm
   rw[this,wu];rfl
theorem Piece.sj(h:Piece ts a n l)(k s):cT l 0 k s=((aJ.of ts).kind a==k&&(s==[]||(aJ.of ts).text a==s)):=by
 unfold cT;rw[h.at h.pos];rfl
theorem Piece.H2(h:Piece ts a n l){i}(a1:0<i)(hi:i<=n):nf (aJ.of ts) (a+i)=decide (i<n):=by
 unfold nf;by_cases h9:i<n
 .rw[h.same i a1 h9,u1 h9];have:=h.hs i h9;rw[px,hU];exact this
 .obtain rfl:i=n:=by omega
  rw[tD (y1 _)]
  rcases h.last with e|e
  .rw[e];rfl
  .rw[e,Bool.and_eq_false_iff];right;rfl
theorem Piece.nm(h:Piece ts a n l){i}(hi:i<n):ep [] (l.drop i)=(if(aJ.of ts).kind (a+i)=1 then[kI ((aJ.of ts).text (a+i))]else[])++ep [] (l.drop (i+1)):=by
 have fG:i<l.length:=by rw[h.len];exact hi
 rw[hN fG,ep,api];have e:=h.at hi;rw[dy fG]at e;rw[hc e];rfl
theorem Piece.F1(h:Piece ts a n l){i}(hi:i<n)(k):gO k (l.drop i)=gO (if(aJ.of ts).kind (a+i)=2 then(aJ.of ts).num (a+i)else k) (l.drop (i+1)):=by
 have fG:i<l.length:=by rw[h.len];exact hi
 rw[hN fG,gO];have e:=h.at hi;rw[dy fG]at e;rw[hc e];rfl
theorem Piece.aiW(h:Piece ts a n l):ep [] (l.drop n)=[]:=by rw[zW (by rw[h.len];exact bS _)];rfl
theorem Piece.aEH(h:Piece ts a n l)(k):gO k (l.drop n)=k:=by rw[zW (by rw[h.len];exact bS _)];rfl
theorem Piece.name(h:Piece ts a n l){i}(a1:0<i)(hi:i<=n):dN (aJ.of ts) (a+i)=if cT l i 1 []=true then .ok (kI ((aJ.of ts).text (a+i)),a+i+1)else .error (a+i):=by
 rw[h.wd a1 hi (by decide),show(([]:List UInt8)==[])=true from rfl,tU,oX]
 rfl
theorem Piece.size(h:Piece ts a n l){i}(a1:0<i)(hi:i<=n):fT (aJ.of ts) (a+i)=if cT l i 2 []=true then .ok ((aJ.of ts).num (a+i),a+i+1)else .error (a+i):=by
 rw[h.wd a1 hi (by decide),show(([]:List UInt8)==[])=true from rfl,tU,oX]
 rfl
theorem Piece.is(h:Piece ts a n l){i}(a1:0<i)(hi:i<=n){s}(aq:(s==[])=false):lP (aJ.of ts) s (a+i)=cT l i 3 s:=by
 rw[h.wd a1 hi (by decide),aq,o5]
 rfl
def Piece.sign(h:Piece ts a n l){i}(a1:0<i)(hi:i<=n){s}(aq:(s==[])=false):ul (aJ.of ts) s (a+i)=if cT l i 3 s=true then .ok ((),a+i+1)else .error (a+i):=by
 unfold ul;rw[h.is a1 hi aq]
end
theorem bind_assoc{α β aHb:Type}(f:cr α)(g:α->cr β)(k:β->cr aHb)(p):cr.bind (cr.bind f g) k p=cr.bind f (fun x=>cr.bind (g x) k) p:=by
 unfold cr.bind;cases f p with
 |error e=>rfl
 |ok x=>rfl
def I9{α β:Type}{f eU:cr α}{g:α->cr β}{p}(h:f p=eU p):cr.bind f g p=cr.bind eU g p:=by unfold cr.bind;rw[h]
def kt{α β:Type}{f:cr α}{g:α->cr β}{p e}(h:f p=.error e):cr.bind f g p=.error e:=by unfold cr.bind;rw[h]
def iz{α β:Type}{f:cr α}{g:α->cr β}{p c}{x:α}(h:f p=.ok (x,c)):cr.bind f g p=g x c:=by unfold cr.bind;rw[h]
def hb{α:Type}(a n:Nat)(res:Except Nat (α × Nat))(fr:Nat × Bool)(P:α->Nat->Prop):Prop:=match res with
 |.error e=>∃j,e=a+j/\fr=(j,false)
 |.ok (y,c)=>∃j,c=a+j/\j<=n/\fr=(j,true)/\P y j
def hb.err{α:Type}{a n j}{P:α->Nat->Prop}:hb a n (.error (a+j):Except Nat (α × Nat)) (j,false) P:=⟨j,rfl,rfl⟩
def hb.mono{α:Type}{a n}{res:Except Nat (α × Nat)}{fr}{P Q:α->Nat->Prop}(h:hb a n res fr P)(bD:∀y j,P y j->Q y j):hb a n res fr Q:=by
 unfold hb at h |-;cases res with
 |error e=>exact h
 |ok p=>obtain⟨j,cy,a2,a3,a4⟩:=h;exact⟨j,cy,a2,a3,bD _ _ a4⟩
section
variable {ts:List Tok.T} {a n:Nat} {l:List Tok.T}
def Piece.r9(h:Piece ts a n l){i}(a1:0<i)(hi:i<=n):(∃s,cT l i 1 []=true/\i<n/\dN (aJ.of ts) (a+i)=.ok (s,a+(i+1))/\ep [] (l.drop i)=s::ep [] (l.drop (i+1))/\∀k,gO k (l.drop i)=gO k (l.drop (i+1)))\/(cT l i 1 []=false/\dN (aJ.of ts) (a+i)=.error (a+i)):=by
 rw[h.name a1 hi];cases hw:cT l i 1 []with
 |false=>exact .inr ⟨rfl,rfl⟩
 |true=>
   have h9:i<n:=by have:=jh hw;rwa[h.len]at this
   rw[h.wd a1 hi (by decide)]at hw
   simp only[dr,cG]at hw;have an:=hw.1.2;refine .inl ⟨_,rfl,h9,rfl,?_,fun k=>?_⟩
   .rw[h.nm h9,a' an];rfl
   .rw[h.F1 h9,bm (by omega)]
def Piece.aiq(h:Piece ts a n l){i}(a1:0<i)(hi:i<=n):(∃s,cT l i 2 []=true/\i<n/\fT (aJ.of ts) (a+i)=.ok (s,a+(i+1))/\ep [] (l.drop i)=ep [] (l.drop (i+1))/\∀k,gO k (l.drop i)=gO s (l.drop (i+1)))\/(cT l i 2 []=false/\fT (aJ.of ts) (a+i)=.error (a+i)):=by
 rw[h.size a1 hi];cases hw:cT l i 2 []with
 |false=>exact .inr ⟨rfl,rfl⟩
 |true=>
   have h9:i<n:=by have:=jh hw;rwa[h.len]at this
   rw[h.wd a1 hi (by decide)]at hw
   simp only[dr,cG]at hw;have an:=hw.1.2;refine .inl ⟨_,rfl,h9,rfl,?_,fun k=>?_⟩
   .rw[h.nm h9,bm (by omega)];rfl
   .rw[h.F1 h9,a' an]
def Piece.tj(h:Piece ts a n l){i}(a1:0<i)(hi:i<=n){s}(aq:(s==[])=false):(cT l i 3 s=true/\i<n/\ul (aJ.of ts) s (a+i)=.ok ((),a+(i+1))/\lP (aJ.of ts) s (a+i)=true/\ep [] (l.drop i)=ep [] (l.drop (i+1))/\∀k,gO k (l.drop i)=gO k (l.drop (i+1)))\/(cT l i 3 s=false/\ul (aJ.of ts) s (a+i)=.error (a+i)/\lP (aJ.of ts) s (a+i)=false):=by
 rw[h.sign a1 hi aq,h.is a1 hi aq];cases hw:cT l i 3 s with
 |false=>exact .inr ⟨rfl,rfl,rfl⟩
 |true=>
   have h9:i<n:=by have:=jh hw;rwa[h.len]at this
   rw[h.wd a1 hi (by decide)]at hw
   simp only[dr,cG]at hw;have an:=hw.1.2;refine .inl ⟨rfl,h9,rfl,rfl,?_,fun k=>?_⟩
   .rw[h.nm h9,bm (by omega)];rfl
   .rw[h.F1 h9,bm (by omega)]
def aDI(h:Piece ts a n l):∀(m jw j:Nat) (acc:List ByteArray),0<j->j<=n->n<j+m->n<j+jw->
 hb a n (cr.bind (dN (aJ.of ts)) (fun x=>cr.bind (jv (aJ.of ts) m (acc++[x])) fun dW=>cr.bind (ul (aJ.of ts) [41]) fun _ c=>.ok (dW,c)) (a+j)) (mq l false [41] jw j) (fun dW m'=>∃pO,dW=acc++pO/\ep [] (l.drop j)=pO++ep [] (l.drop m')/\∀k,gO k (l.drop j)=gO k (l.drop m')):=by
 intro m
 induction m with
 |zero=>intro jw j acc a1 br J U;omega
 |succ m aw=>
   intro jw j acc a1 br J U
   obtain⟨jw,rfl⟩:∃k,jw=k+1:=⟨jw-1,by omega⟩
   rw[mq]
   rcases h.r9 a1 br with⟨s,aV,b4,dJ,eO,hY⟩|⟨aV,b4⟩
   .rw[iz dJ,a' aV];simp only[nv,lk,gx]
    rcases h.tj (i:=j+1) (by omega) (by omega) (s:=[41]) rfl with⟨cq,cN,et,jd,lx,pn⟩|⟨cq,cN,et⟩
    .rw[a' cq]
     have e:jv (aJ.of ts) (m+1) (acc++[s]) (a+(j+1))=.ok (acc++[s],a+(j+1)):=by rw[jv,a' jd]
     rw[iz e,iz et]
     exact⟨j+1+1,rfl,cN,rfl,[s],rfl,by rw[eO,lx];rfl,fun k=>by rw[hY,pn]⟩
    .rw[bm (by rw[cq];decide)]
     have e:jv (aJ.of ts) (m+1) (acc++[s]) (a+(j+1))=cr.bind (ul (aJ.of ts) [44]) (fun _=>cr.bind (dN (aJ.of ts)) fun x=>jv (aJ.of ts) m (acc++[s]++[x])) (a+(j+1)):=by
      rw[jv,bm (by rw[et];decide),a' (by simp)]
     have aK:∀G:List ByteArray->cr (List ByteArray),cr.bind (jv (aJ.of ts) (m+1) (acc++[s])) G (a+(j+1))=cr.bind (ul (aJ.of ts) [44]) (fun _=>cr.bind (dN (aJ.of ts)) fun x=>cr.bind (jv (aJ.of ts) m (acc++[s]++[x])) G) (a+(j+1)):=fun G=>by
      rw[I9 e,bind_assoc]
      congr 1
      funext _
      funext p
      exact bind_assoc _ _ _ p
     rw[aK]
     rcases h.tj (i:=j+1) (by omega) (by omega) (s:=[44]) rfl with⟨d1,d2,d3,d4,d5,d6⟩|⟨d1,d2,d3⟩
     .rw[a' d1,iz d3]
      refine(aw jw (j+1+1) (acc++[s]) (by omega) (by omega) (by omega) (by omega)).mono fun dW m'=>?_
      rintro⟨pO,bp,aP,bj⟩
      exact⟨s::pO,by rw[bp,kG];rfl,by rw[eO,d5,aP];rfl,fun k=>by rw[hY,d6,bj]⟩
     .rw[bm (by rw[d1];decide),kt d2]
      exact hb.err
   .rw[kt b4,bm (by rw[aV];decide)]
    exact hb.err
def Qj(h:Piece ts a n l){N}(dv:n<N)(is){i}(a1:0<i)(hi:i<=n):∃fr,bW l ([40]::is) i=(if fr.2=true then bW l is fr.1 else(fr.1,false))/\hb a n (o9 (aJ.of ts) N (a+i)) fr (fun dW j=>ep [] (l.drop i)=dW++ep [] (l.drop j)/\∀k,gO k (l.drop i)=gO k (l.drop j)):=by
 have RM:bW l ([40]::is) i=(if cT l i 3 [40]then(if(k' l false [41] (i+1)).2 then bW l is (k' l false [41] (i+1)).1 else((k' l false [41] (i+1)).1,false))else(i,false)):=rfl
 rw[RM];unfold o9
 rcases h.tj a1 hi (s:=[40]) rfl with⟨cq,cN,et,jd,lx,pn⟩|⟨cq,cN,et⟩
 .rw[a' cq,iz et];refine⟨k' l false [41] (i+1),rfl,?_⟩;unfold k';simp only[Rl,px]
  rcases h.tj (i:=i+1) (by omega) (by omega) (s:=[41]) rfl with⟨d1,d2,d3,d4,d5,d6⟩|⟨d1,d2,d3⟩
  .rw[a' d1]
   obtain⟨m,rfl⟩:∃m,N=m+1:=⟨N-1,by omega⟩
   have e:jv (aJ.of ts) (m+1) [] (a+(i+1))=.ok ([],a+(i+1)):=by rw[jv,a' d4]
   rw[iz e,iz d3]
   exact⟨i+1+1,rfl,d2,rfl,by rw[lx,d5];rfl,fun k=>by rw[pn,d6]⟩
  .rw[bm (by rw[d1];decide)]
   obtain⟨m,rfl⟩:∃m,N=m+1:=⟨N-1,by omega⟩
   have aK:∀G:List ByteArray->cr (List ByteArray),cr.bind (jv (aJ.of ts) (m+1) []) G (a+(i+1))=cr.bind (dN (aJ.of ts)) (fun x=>cr.bind (jv (aJ.of ts) m ([]++[x])) G) (a+(i+1)):=fun G=>by
    rw[<- bind_assoc];refine I9 ?_
    rw[jv,bm (by rw[d3];decide),bm (by decide)]
   rw[aK]
   refine(aDI h m (l.length+1) (i+1) [] (by omega) (by omega) (by omega) (by rw[h.len];omega)).mono fun dW j=>?_
   rintro⟨pO,bp,aP,bj⟩;rw[bp]
   exact⟨by rw[lx,aP];rfl,fun k=>by rw[pn,bj]⟩
 .rw[bm (by rw[cq];decide),kt cN]
  exact⟨(i,false),rfl,hb.err⟩
end
def oY(ps:List (ByteArray × ByteArray)):List ByteArray:=ps.flatMap fun p=>[p.1,p.2]
def aEI(ps):(oY ps).length=2*ps.length:=by
 induction ps with
 |nil=>rfl
 |cons p ps aw=>unfold oY at aw |-;rw[List.flatMap_cons,fU,aw,gP];simp;omega
theorem aBz(ps):mM (oY ps) 0 ps.length=ps.map (·.1)/\mM (oY ps) 1 ps.length=ps.map (·.2):=by
 have key:∀(ps:List (ByteArray × ByteArray)) (i:Nat) (p:ByteArray × ByteArray),ps[i]?=some p->(oY ps)[2*i]?=some p.1/\(oY ps)[2*i+1]?=some p.2:=by
  intro ps
  induction ps with
  |nil=>intro i p h;simp at h
  |cons q ps aw=>
    intro i p h;have e:oY (q::ps)=q.1::q.2::oY ps:=rfl;cases i with
    |zero=>cases h;exact⟨rfl,rfl⟩
    |succ i=>
      have:=aw i p h
      rw[e,show 2*(i+1)=2*i+1+1 by omega]
      exact this
 constructor
 .refine vU fun i=>?_;unfold mM;rw[oi,oi];by_cases hi:i<ps.length
  .rw[dy hi,FA hi];have:=(key ps i _ (dy hi)).1;simp only[mD,j2,mI,this,Hu]
  .rw[mm (by simpa using hi),mm (by omega)]
   rfl
 .refine vU fun i=>?_;unfold mM;rw[oi,oi];by_cases hi:i<ps.length
  .rw[dy hi,FA hi];have:=(key ps i _ (dy hi)).2;rw[Nat.add_comm]at this;simp only[mD,mI,this,Hu]
  .rw[mm (by simpa using hi),mm (by omega)]
   rfl
section
variable {ts:List Tok.T} {a n:Nat} {l:List Tok.T}
def av0(h:Piece ts a n l):∀(m jw j:Nat) (ls xs:List ByteArray),0<j->j<=n->n<j+m->n<j+jw->
 hb a n (cr.bind (kM (aJ.of ts) m ls xs) (fun p=>cr.bind (ul (aJ.of ts) [93]) fun _ c=>.ok (p,c)) (a+j)) (mq l true [93] jw j) (fun p m'=>∃pO:List (ByteArray × ByteArray),p=(ls++pO.map (·.1),xs++pO.map (·.2))/\pO≠[]/\ep [] (l.drop j)=oY pO++ep [] (l.drop m')/\∀k,gO k (l.drop j)=gO k (l.drop m')):=by
 intro m
 induction m with
 |zero=>intro jw j ls xs a1 br J U;omega
 |succ m aw=>
   intro jw j ls xs a1 br J U
   obtain⟨jw,rfl⟩:∃k,jw=k+1:=⟨jw-1,by omega⟩
   rw[mq];obtain⟨G,jr⟩:∃G:List ByteArray × List ByteArray->cr (List ByteArray × List ByteArray),(fun p=>cr.bind (ul (aJ.of ts) [93]) fun _ c=>.ok (p,c))=G:=⟨_,rfl⟩;rw[jr]
   have ck:cr.bind (kM (aJ.of ts) (m+1) ls xs) G (a+j)=cr.bind (dN (aJ.of ts)) (fun s=>cr.bind (cr.bind (ul (aJ.of ts) [58]) fun _=>cr.bind (dN (aJ.of ts)) fun x b=>if lP (aJ.of ts) [44] b=true then cr.bind (ul (aJ.of ts) [44]) (fun _=>kM (aJ.of ts) m (ls++[s]) (xs++[x])) b else .ok ((ls++[s],xs++[x]),b)) G) (a+j):=by
    rw[<- bind_assoc]
    exact I9 (by rw[kM])
   rw[ck]
   rcases h.r9 a1 br with⟨s,aV,b4,dJ,eO,hY⟩|⟨aV,b4⟩
   .rw[iz dJ,a' aV,bind_assoc];simp only[px,fl]
    rcases h.tj (i:=j+1) (by omega) (by omega) (s:=[58]) rfl with⟨cq,cN,et,jd,lx,pn⟩|⟨cq,cN,et⟩
    .rw[iz et,bm (by rw[cq];decide),bind_assoc]
     rcases h.r9 (i:=j+2) (by omega) (by omega)with⟨x,v1,v2,v3,v4,v5⟩|⟨v1,v2⟩
     .rw[show a+(j+1+1)=a+(j+2) by omega,iz v3,bm (by rw[v1];decide)]
      have po:ep [] (l.drop j)=s::x::ep [] (l.drop (j+3)):=by rw[eO,lx,v4]
      have u3:∀k,gO k (l.drop j)=gO k (l.drop (j+3)):=fun k=>by rw[hY,pn,v5]
      rcases h.tj (i:=j+3) (by omega) (by omega) (s:=[44]) rfl with⟨d1,d2,d3,d4,d5,d6⟩|⟨d1,d2,d3⟩
      .
       have avd:cT l (j+3) 3 [93]=false:=by
        rw[h.wd (by omega) (by omega) (by decide)]
        rw[h.wd (by omega) (by omega) (by decide)]at d1
        simp only[dr,jq,cG]at d1
        rcases d1.2 with e|e
        .cases e
        .rw[e];simp
       rw[bm (by rw[avd];decide),a' d1]
       have aF:cr.bind (fun b=>if lP (aJ.of ts) [44] b=true then cr.bind (ul (aJ.of ts) [44]) (fun _=>kM (aJ.of ts) m (ls++[s]) (xs++[x])) b else .ok ((ls++[s],xs++[x]),b)) G (a+(j+3))=cr.bind (kM (aJ.of ts) m (ls++[s]) (xs++[x])) G (a+(j+3+1)):=by
        have:cr.bind (fun b=>if lP (aJ.of ts) [44] b=true then cr.bind (ul (aJ.of ts) [44]) (fun _=>kM (aJ.of ts) m (ls++[s]) (xs++[x])) b else .ok ((ls++[s],xs++[x]),b)) G (a+(j+3))=cr.bind (cr.bind (ul (aJ.of ts) [44]) (fun _=>kM (aJ.of ts) m (ls++[s]) (xs++[x]))) G (a+(j+3)):=I9 (by rw[a' d4])
        rw[this,bind_assoc,iz d3]
       rw[show a+(j+2+1)=a+(j+3) by omega,aF,<- jr]
       refine(aw jw (j+3+1) (ls++[s]) (xs++[x]) (by omega) (by omega) (by omega) (by omega)).mono fun p m'=>?_
       rintro⟨pO,bp,aP,bj,c4⟩
       exact⟨(s,x)::pO,by rw[bp,kG,kG];rfl,by simp,by rw[po,d5,bj];rfl,fun k=>by rw[u3,d6,c4]⟩
      .have aF:cr.bind (fun b=>if lP (aJ.of ts) [44] b=true then cr.bind (ul (aJ.of ts) [44]) (fun _=>kM (aJ.of ts) m (ls++[s]) (xs++[x])) b else .ok ((ls++[s],xs++[x]),b)) G (a+(j+3))=G (ls++[s],xs++[x]) (a+(j+3)):=iz (by rw[bm (by rw[d3];decide)])
       rw[show a+(j+2+1)=a+(j+3) by omega,aF,<- jr]
       dsimp only
       rcases h.tj (i:=j+3) (by omega) (by omega) (s:=[93]) rfl with⟨f1,f2,f3,f4,f5,f6⟩|⟨f1,f2,f3⟩
       .rw[a' f1,iz f3]
        exact⟨j+3+1,rfl,f2,rfl,[(s,x)],rfl,by simp,by rw[po,f5];rfl,fun k=>by rw[u3,f6]⟩
       .rw[bm (by rw[f1];decide),bm (by rw[d1];decide),kt f2]
        exact hb.err
     .rw[show a+(j+1+1)=a+(j+2) by omega,kt v2,a' (by rw[v1];rfl)]
      exact hb.err
    .rw[kt cN,a' (by rw[cq];rfl)]
     exact hb.err
   .rw[kt b4,bm (by rw[aV];decide)]
    exact hb.err
def w1:Nat->List (List UInt8)
 |1|2=>[[75]]
 |3=>[]
 |4|5|8|13=>[[78]]
 |6=>[[91]]
 |7=>[[78],[75]]
 |9=>[[78],[44],[78]]
 |10|11=>[[78],[40]]
 |12=>[[78],[78]]
 |_=>[[63]]
theorem sh(is i):bW l ([78]::is) i=if cT l i 1 []=true then bW l is (i+1)else(i,false):=rfl
theorem U3(is i):bW l ([75]::is) i=if cT l i 2 []=true then bW l is (i+1)else(i,false):=rfl
theorem acE(is i):bW l ([63]::is) i=(if cT l i 1 []=true then i+1 else i,true):=rfl
theorem aCG(i):bW l [] i=(i,true):=rfl
theorem Fb(h:∀t∈l,q5 t)(is i){c}(aa:Tok.sign c=true)(aN:c≠40/\c≠91):bW l ([c]::is) i=if cT l i 3 [c]=true then bW l is (i+1)else(i,false):=by
 have nl:Tok.letter 78=true/\Tok.letter 75=true:=⟨rfl,rfl⟩
 have cw:([c]==([78]:List UInt8))=false:=by rw[eZ];intro e;cases e;exact absurd aa (by decide)
 have bN:([c]==([75]:List UInt8))=false:=by rw[eZ];intro e;cases e;exact absurd aa (by decide)
 have po:([c]==([63]:List UInt8))=false:=by rw[eZ];intro e;cases e;exact absurd aa (by decide)
 have yk:([c]==([40]:List UInt8))=false:=by rw[eZ];intro e;cases e;exact aN.1 rfl
 have n5:([c]==([91]:List UInt8))=false:=by rw[eZ];intro e;cases e;exact aN.2 rfl
 rw[bW,cw,bN,po,yk,n5,aBC h aa];rfl
def ah0(h:Piece ts a n l){N}(dv:n<N){op}(cE:op∈[1,2,3,4,5,6,7,8,9,10,11,12,13,14])(d){i}(a1:0<i)(hi:i<=n):
 hb a n (Ao (aJ.of ts) N op { iC with op:=op,d:=d } (a+i)) (bW l (w1 op) i) (fun x j=>j=n->x=l' op d (ep [] (l.drop i)) (gO 0 (l.drop i))/\r3 op (ep [] (l.drop i))):=by
 have wj:=h.aiW;have vH:=h.aEH
 have one:∀(op:Nat) (f:ByteArray->gf),(∀s,ep [] (l.drop i)=[s]->(gO 0 (l.drop i)=0)->f s=l' op d [s] 0/\r3 op [s])->hb a n (cr.bind (dN (aJ.of ts)) (fun s c=>.ok (f s,c)) (a+i)) (bW l [[78]] i) (fun x j=>j=n->x=l' op d (ep [] (l.drop i)) (gO 0 (l.drop i))/\r3 op (ep [] (l.drop i))):=by
  intro op f al;rw[sh]
  rcases h.r9 a1 hi with⟨s,aV,b4,dJ,eO,hY⟩|⟨aV,b4⟩
  .rw[iz dJ,a' aV];refine⟨i+1,rfl,b4,rfl,fun e=>?_⟩
   have bp:ep [] (l.drop i)=[s]:=by rw[eO,e,wj]
   have aP:gO 0 (l.drop i)=0:=by rw[hY,e,vH]
   rw[bp,aP];exact al s bp aP
  .rw[kt b4,bm (by rw[aV];decide)]
   exact hb.err
 have num:∀(op:Nat),op=1\/op=2->hb a n (cr.bind (fT (aJ.of ts)) (fun m c=>.ok ({ ({ iC with op:=op,d:=d }:gf)with k:=m },c)) (a+i)) (bW l [[75]] i) (fun x j=>j=n->x=l' op d (ep [] (l.drop i)) (gO 0 (l.drop i))/\r3 op (ep [] (l.drop i))):=by
  intro op aT;rw[U3]
  rcases h.aiq a1 hi with⟨s,aV,b4,dJ,eO,hY⟩|⟨aV,b4⟩
  .rw[iz dJ,a' aV];refine⟨i+1,rfl,b4,rfl,fun e=>?_⟩;rw[eO,hY,e,wj,vH]
   rcases aT with rfl|rfl<;>exact⟨rfl,trivial⟩
  .rw[kt b4,bm (by rw[aV];decide)]
   exact hb.err
 have TG:∀(op:Nat) (f:ByteArray->List ByteArray->gf),(∀s dW,f s dW=l' op d (s::dW) 0/\r3 op (s::dW))->hb a n (cr.bind (dN (aJ.of ts)) (fun s=>cr.bind (o9 (aJ.of ts) N) fun dW c=>.ok (f s dW,c)) (a+i)) (bW l [[78],[40]] i) (fun x j=>j=n->x=l' op d (ep [] (l.drop i)) (gO 0 (l.drop i))/\r3 op (ep [] (l.drop i))):=by
  intro op f al;rw[sh]
  rcases h.r9 a1 hi with⟨s,aV,b4,dJ,eO,hY⟩|⟨aV,b4⟩
  .rw[iz dJ,a' aV]
   obtain⟨fr,aF,aK⟩:=Qj h dv [] (i:=i+1) (by omega) (by omega)
   rw[aF];revert aK;cases ak:o9 (aJ.of ts) N (a+(i+1))with
   |error e=>
     rintro⟨j,rfl,rfl⟩;rw[kt ak];exact hb.err
   |ok p=>
     obtain⟨dW,c⟩:=p;rintro⟨j,rfl,a2,rfl,a4,a5⟩;rw[iz ak];refine⟨j,rfl,a2,rfl,fun e=>?_⟩;subst e;rw[eO,a4,wj,hY,a5,vH,vC];exact al s dW
  .rw[kt b4,bm (by rw[aV];decide)]
   exact hb.err
 simp only[kf,xa,vN]at cE
 rcases cE with rfl|rfl|rfl|rfl|rfl|rfl|rfl|rfl|rfl|rfl|rfl|rfl|rfl|rfl
 .exact num 1 (.inl rfl)
 .exact num 2 (.inr rfl)
 .refine⟨i,rfl,hi,rfl,fun e=>?_⟩;subst e;rw[wj,vH];exact⟨rfl,trivial⟩
 .exact one 4 (fun s=>{ ({ iC with op:=(4:Nat),d:=d }:gf)with f:=s }) fun s _ _=>⟨rfl,bS _⟩
 .exact one 5 (fun s=>{ ({ iC with op:=(5:Nat),d:=d }:gf)with a:=s }) fun s _ _=>⟨rfl,bS _⟩
 .
  have RM:bW l [[91]] i=(if cT l i 3 [91]then(if(mq l true [93] (l.length+1) (i+1)).2 then bW l [] (mq l true [93] (l.length+1) (i+1)).1 else((mq l true [93] (l.length+1) (i+1)).1,false))else(i,false)):=rfl
  show hb a n (cr.bind (ul (aJ.of ts) [91]) (fun _=>cr.bind (kM (aJ.of ts) N [] []) fun p=>cr.bind (ul (aJ.of ts) [93]) fun _ c=>.ok ({ ({ iC with op:=(6:Nat),d:=d }:gf)with ls:=p.1,xs:=p.2 },c)) (a+i)) (bW l [[91]] i) _;rw[RM]
  rcases h.tj a1 hi (s:=[91]) rfl with⟨cq,cN,et,jd,lx,pn⟩|⟨cq,cN,et⟩
  .rw[a' cq,iz et]
   have q:=av0 h N (l.length+1) (i+1) [] [] (by omega) (by omega) (by omega) (by rw[h.len];omega)
   have aF:cr.bind (kM (aJ.of ts) N [] []) (fun p=>cr.bind (ul (aJ.of ts) [93]) fun _ c=>.ok ({ ({ iC with op:=(6:Nat),d:=d }:gf)with ls:=p.1,xs:=p.2 },c)) (a+(i+1))=cr.bind (cr.bind (kM (aJ.of ts) N [] []) (fun p=>cr.bind (ul (aJ.of ts) [93]) fun _ c=>.ok (p,c))) (fun p c=>.ok ({ ({ iC with op:=(6:Nat),d:=d }:gf)with ls:=p.1,xs:=p.2 },c)) (a+(i+1)):=by
    rw[bind_assoc]
    congr 1
    funext p q
    rw[bind_assoc];rfl
   rw[aF];revert q;cases ak:cr.bind (kM (aJ.of ts) N [] []) (fun p=>cr.bind (ul (aJ.of ts) [93]) fun _ c=>.ok (p,c)) (a+(i+1))with
   |error e=>
     rintro⟨j,rfl,q⟩;rw[q,kt ak];exact hb.err
   |ok p=>
     obtain⟨p,c⟩:=p;rintro⟨j,rfl,a2,q,pO,gX,z2,z3,z4⟩;rw[q,iz ak];refine⟨j,rfl,a2,rfl,fun e=>?_⟩;subst e;rw[lx,z3,wj,pn,z4,vH,vC,gX];have dd:=aEI pO;obtain⟨K8,xN⟩:=aBz pO;refine⟨?_,pO.length,dd,List.length_pos_iff.2 z2⟩;unfold l'
     rw[dd,ake _ (by decide),K8,xN]
     rfl
  .rw[bm (by rw[cq];decide),kt cN]
   exact hb.err
 .
  show hb a n (cr.bind (dN (aJ.of ts)) (fun s=>cr.bind (fT (aJ.of ts)) fun m c=>.ok ({ ({ iC with op:=(7:Nat),d:=d }:gf)with a:=s,k:=m },c)) (a+i)) (bW l [[78],[75]] i) _;rw[sh]
  rcases h.r9 a1 hi with⟨s,aV,b4,dJ,eO,hY⟩|⟨aV,b4⟩
  .rw[iz dJ,a' aV,U3]
   rcases h.aiq (i:=i+1) (by omega) (by omega)with⟨m,v1,v2,v3,v4,v5⟩|⟨v1,v2⟩
   .rw[iz v3,a' v1];refine⟨i+1+1,rfl,v2,rfl,fun e=>?_⟩;rw[eO,v4,hY,v5,e,wj,vH];exact⟨rfl,bS _⟩
   .rw[kt v2,bm (by rw[v1];decide)]
    exact hb.err
  .rw[kt b4,bm (by rw[aV];decide)]
   exact hb.err
 .exact one 8 (fun s=>{ ({ iC with op:=(8:Nat),d:=d }:gf)with a:=s }) fun s _ _=>⟨rfl,bS _⟩
 .
  show hb a n (cr.bind (dN (aJ.of ts)) (fun s=>cr.bind (ul (aJ.of ts) [44]) fun _=>cr.bind (dN (aJ.of ts)) fun t c=>.ok ({ ({ iC with op:=(9:Nat),d:=d }:gf)with a:=s,b:=t },c)) (a+i)) (bW l [[78],[44],[78]] i) _;rw[sh]
  rcases h.r9 a1 hi with⟨s,aV,b4,dJ,eO,hY⟩|⟨aV,b4⟩
  .rw[iz dJ,a' aV,Fb h.xk _ _ (by decide) (by decide)]
   rcases h.tj (i:=i+1) (by omega) (by omega) (s:=[44]) rfl with⟨cq,cN,et,jd,lx,pn⟩|⟨cq,cN,et⟩
   .rw[a' cq,iz et,sh]
    rcases h.r9 (i:=i+1+1) (by omega) (by omega)with⟨t,v1,v2,v3,v4,v5⟩|⟨v1,v2⟩
    .rw[iz v3,a' v1];refine⟨i+1+1+1,rfl,v2,rfl,fun e=>?_⟩;rw[eO,lx,v4,hY,pn,v5,e,wj,vH];exact⟨rfl,bS _⟩
    .rw[kt v2,bm (by rw[v1];decide)]
     exact hb.err
   .rw[bm (by rw[cq];decide),kt cN]
    exact hb.err
  .rw[kt b4,bm (by rw[aV];decide)]
   exact hb.err
 .exact TG 10 (fun s dW=>{ ({ iC with op:=(10:Nat),d:=d }:gf)with f:=s,xs:=dW }) fun s dW=>⟨rfl,by show 1<=(s::dW).length;simp⟩
 .exact TG 11 (fun s dW=>{ ({ iC with op:=(11:Nat),d:=d }:gf)with a:=s,xs:=dW }) fun s dW=>⟨rfl,by show 1<=(s::dW).length;simp⟩
 .
  show hb a n (cr.bind (dN (aJ.of ts)) (fun s=>cr.bind (dN (aJ.of ts)) fun t c=>.ok ({ ({ iC with op:=(12:Nat),d:=d }:gf)with ls:=[s,t] },c)) (a+i)) (bW l [[78],[78]] i) _;rw[sh]
  rcases h.r9 a1 hi with⟨s,aV,b4,dJ,eO,hY⟩|⟨aV,b4⟩
  .rw[iz dJ,a' aV,sh]
   rcases h.r9 (i:=i+1) (by omega) (by omega)with⟨t,v1,v2,v3,v4,v5⟩|⟨v1,v2⟩
   .rw[iz v3,a' v1];refine⟨i+1+1,rfl,v2,rfl,fun e=>?_⟩;rw[eO,v4,hY,v5,e,wj,vH];exact⟨rfl,trivial⟩
   .rw[kt v2,bm (by rw[v1];decide)]
    exact hb.err
  .rw[kt b4,bm (by rw[aV];decide)]
   exact hb.err
 .exact one 13 (fun s=>{ ({ iC with op:=(13:Nat),d:=d }:gf)with ls:=[s] }) fun s _ _=>⟨rfl,trivial⟩
 .
  have u9:((aJ.of ts).same (a+i)&&(aJ.of ts).kind (a+i)==1)=cT l i 1 []:=by rw[h.wd a1 hi (by decide),show(([]:List UInt8)==[])=true from rfl,tU,oX]
  show hb a n (if((aJ.of ts).same (a+i)&&(aJ.of ts).kind (a+i)==1)=true then cr.bind (dN (aJ.of ts)) (fun s c=>.ok ({ ({ iC with op:=(14:Nat),d:=d }:gf)with a:=s },c)) (a+i)else .ok ({ iC with op:=(14:Nat),d:=d },a+i)) (bW l [[63]] i) _
  rw[u9,acE]
  rcases h.r9 a1 hi with⟨s,aV,b4,dJ,eO,hY⟩|⟨aV,b4⟩
  .rw[a' aV,a' aV,iz dJ];refine⟨i+1,rfl,b4,rfl,fun e=>?_⟩;rw[eO,hY,e,wj,vH];exact⟨rfl,trivial⟩
  .rw[bm (by rw[aV];decide),bm (by rw[aV];decide)]
   refine⟨i,rfl,hi,rfl,fun e=>?_⟩;subst e;rw[wj,vH];exact⟨rfl,trivial⟩
end
def wH(p:List UInt8 × Nat):List (List UInt8):=[78]::[61]::p.1::w1 p.2
def q3(p:List UInt8 × Nat):List (List UInt8):=p.1::w1 p.2
def Be:∀f∈fq,(∃p∈k8,f.1=p.2/\cO f.2=wH p)\/(∃p∈k3,f.1=p.2/\cO f.2=q3 p):=by
 intro f al
 have:fq.all (fun f=>k8.any (fun p=>f.1==p.2&&cO f.2==wH p)||k3.any (fun p=>f.1==p.2&&cO f.2==q3 p))=true:=by decide +kernel
 have q:=dU.1 this f al;rw[jq]at q
 rcases q with q|q<;>obtain⟨p,J,U⟩:=Dw.1 q<;>simp only[dr,cG]at U
 .exact .inl ⟨p,J,U.1,U.2⟩
 .exact .inr ⟨p,J,U.1,U.2⟩
def Ty:(∀p∈k8,∃f∈fq,f.1=p.2/\cO f.2=wH p)/\∀p∈k3,∃f∈fq,f.1=p.2/\cO f.2=q3 p:=by
 have J:k8.all (fun p=>fq.any fun f=>f.1==p.2&&cO f.2==wH p)=true:=by decide +kernel
 have U:k3.all (fun p=>fq.any fun f=>f.1==p.2&&cO f.2==q3 p)=true:=by decide +kernel
 constructor<;>intro p aj
 .obtain⟨f,f1,f2⟩:=Dw.1 (dU.1 J p aj);simp only[dr,cG]at f2;exact⟨f,f1,f2.1,f2.2⟩
 .obtain⟨f,f1,f2⟩:=Dw.1 (dU.1 U p aj);simp only[dr,cG]at f2;exact⟨f,f1,f2.1,f2.2⟩
def ya:∀p∈k8++k3,(∃c c' s,p.1=c::c'::s/\Tok.letter c=true)/\p.2∈[1,2,3,4,5,6,7,8,9,10,11,12,13,14]:=by
 intro p aj
 have:(k8++k3).all (fun p=>(match p.1 with|c::_::_=>Tok.letter c|_=>false)&&decide (p.2∈[1,2,3,4,5,6,7,8,9,10,11,12,13,14]))=true:=by decide +kernel
 have q:=dU.1 this p aj;simp only[dr,lm]at q;refine⟨?_,q.2⟩;have bp:=q.1;split at bp
 .rename_i c c' s e;exact⟨c,c',s,e,bp⟩
 .cases bp
def aeQ:(∀p∈k8,∀q∈k8,p.1=q.1->p=q)/\∀p∈k3,∀q∈k3,p.1=q.1->p=q:=by
 have J:k8.all (fun p=>k8.all fun q=>p.1 != q.1||p==q)=true:=by decide +kernel
 have U:k3.all (fun p=>k3.all fun q=>p.1 != q.1||p==q)=true:=by decide +kernel
 constructor<;>intro p aj q bD e
 .have:=dU.1 (dU.1 J p aj) q bD;rw[jq,hU,cG]at this;exact this.resolve_left fun h=>h e
 .have:=dU.1 (dU.1 U p aj) q bD;rw[jq,hU,cG]at this;exact this.resolve_left fun h=>h e
def am2:∀f∈fq,∀g∈fq,cO f.2=cO g.2->f=g:=by
 have J:fq.all (fun p=>fq.all fun q=>cO p.2 != cO q.2||(p.1==q.1&&(p.2.map (·.data))==(q.2.map (·.data))))=true:=by decide +kernel
 intro p aj q bD e;have:=dU.1 (dU.1 J p aj) q bD;rw[jq,hU,dr,cG,cG]at this;have h:=this.resolve_left fun h=>h e
 have inj:∀(a b:List ByteArray),a.map (·.data)=b.map (·.data)->a=b:=by
  intro a
  induction a with
  |nil=>intro b af;cases b with|nil=>rfl|cons _ _=>cases af
  |cons x a aw=>
    intro b af;cases b with
    |nil=>cases af
    |cons y b=>
      rw[lL,lL]at af;obtain⟨J,U⟩:=List.cons.inj af;rw[aw b U]
      congr 1
      cases x;cases y;dsimp only at J;rw[J]
 obtain⟨cn,dK⟩:=p;obtain⟨bp,aP⟩:=q;rw[show cn=bp from h.1,show dK=aP from inj _ _ h.2]
def aoe{L s o}(h:tp L s=some o):(s,o)∈L:=by
 unfold tp at h;cases al:L.find? (fun p=>p.1==s)with
 |none=>rw[al]at h;cases h
 |some p=>
   rw[al]at h;have J:=adW al;have U:=List.find?_some al;cases h;rw[<- eq_of_beq U];exact J
def UY{L s}(h:tp L s=none):∀p∈L,p.1≠s:=by
 unfold tp at h;cases al:L.find? (fun p=>p.1==s)with
 |none=>
   intro p aj e;have:=List.find?_eq_none.1 al p aj
   exact this (by rw[e];exact lz _)
 |some p=>rw[al]at h;cases h
def oy(l:List Tok.T)(f:Nat × List ByteArray):Bool:=(bW l (cO f.2) 0).2&&(bW l (cO f.2) 0).1==l.length
def asy{l f0}:∀(bG:List (Nat × List ByteArray)) (b:Nat),(∀f∈bG,f≠f0->oy l f=false/\(bW l (cO f.2) 0).1<=(bW l (cO f0.2) 0).1)->b<=(bW l (cO f0.2) 0).1->(f0∈bG\/b=(bW l (cO f0.2) 0).1)->(f0 ∉ bG->oy l f0=false)->j5 l bG b=if oy l f0=true then .inl f0 else .inr (bW l (cO f0.2) 0).1:=by
 intro bG
 induction bG with
 |nil=>
   intro b J U ax aY
   rw[aY (by simp)]
   rcases ax with ax|ax
   .cases ax
   .rw[ax];rfl
 |cons f bG aw=>
   intro b J U ax aY;rw[j5];by_cases e:f=f0
   .subst e;by_cases al:oy l f=true
    .have qj:((bW l (cO f.2) 0).2&&(bW l (cO f.2) 0).1==l.length)=true:=al;rw[a' qj,a' al]
    .have qj:¬((bW l (cO f.2) 0).2&&(bW l (cO f.2) 0).1==l.length)=true:=al;rw[bm qj];rw[nz]at al
     exact aw _ (fun g bb=>J g (hP _ bb)) (by omega) (.inr (by omega)) fun _=>al
   .obtain⟨bp,aP⟩:=J f iH e
    have Q9:¬((bW l (cO f.2) 0).2&&(bW l (cO f.2) 0).1==l.length)=true:=by
     have:oy l f=false:=bp;unfold oy at this;rw[this];decide
    rw[bm Q9]
    refine aw _ (fun g bb=>J g (hP _ bb)) (by omega) ?_ fun aN=>aY fun hm=>?_
    .rcases ax with ax|ax
     .rcases kf.1 ax with ax|ax
      .exact absurd ax.symm e
      .exact .inl ax
     .right;omega
    .rcases kf.1 hm with hm|hm
     .exact e hm.symm
     .exact aN hm
def Lf{l M}:∀(bG:List (Nat × List ByteArray)) (b:Nat),(∀f∈bG,oy l f=false/\(bW l (cO f.2) 0).1<=M)->b<=M->(b=M\/∃f∈bG,(bW l (cO f.2) 0).1=M)->j5 l bG b=.inr M:=by
 intro bG
 induction bG with
 |nil=>
   intro b _ _ h
   rcases h with h|⟨f,al,_⟩
   .rw[h];rfl
   .cases al
 |cons f bG aw=>
   intro b J U ax;obtain⟨bp,aP⟩:=J f iH;rw[j5]
   have Q9:¬((bW l (cO f.2) 0).2&&(bW l (cO f.2) 0).1==l.length)=true:=by
    unfold oy at bp;rw[bp];decide
   rw[bm Q9]
   refine aw _ (fun g bb=>J g (hP _ bb)) (by omega) ?_
   rcases ax with ax|⟨g,bb,ax⟩
   .left;omega
   .rcases kf.1 bb with rfl|bb
    .left;omega
    .exact .inr ⟨g,bb,ax⟩
section
variable {ts:List Tok.T} {a n:Nat} {l:List Tok.T}
theorem Kf(h:∀t∈l,q5 t){w}(hw:∃c c' s,w=c::c'::s/\Tok.letter c=true)(is i):bW l (w::is) i=if cT l i 1 w=true then bW l is (i+1)else(i,false):=by
 obtain⟨c,c',s,rfl,aa⟩:=hw
 have fx:∀x:UInt8,((c::c'::s:List UInt8)==[x])=false:=fun x=>by rw[eZ];intro e;cases e
 rw[bW,fx,fx,fx,fx,fx,aEr h aa];rfl
def Piece.CG(h:Piece ts a n l){p}(aj:p∈k8):bW l (wH p) 0=if cT l 0 1 []=true then(if cT l 1 3 [61]=true then(if cT l 2 1 p.1=true then bW l (w1 p.2) 3 else(2,false))else(1,false))else(0,false):=by
 unfold wH
 rw[sh,Fb h.xk _ _ (by decide) (by decide),Kf h.xk (ya p (lH _ aj)).1]
def Piece.ug(h:Piece ts a n l){p}(aj:p∈k3):bW l (q3 p) 0=if cT l 0 1 p.1=true then bW l (w1 p.2) 1 else(0,false):=by
 unfold q3;rw[Kf h.xk (ya p (pf _ aj)).1]
def apL{l i k s}(h:cT l i k s=true):cT l i k []=true:=by
 unfold cT at h |-;split at h
 .cases h
 .simp only[dr]at h;simp only[h.1,lz,tU,k7]
def afO{l i k gT s lQ}(h:cT l i k s=true)(an:k≠gT):cT l i gT lQ=false:=by
 unfold cT at h |-;split at h
 .cases h
 .simp only[dr,cG]at h
  have:∀t:Tok.T,t.kind=k->(t.kind==gT)=false:=fun t e=>by rw[e,eZ];exact an
  rw[this _ h.1,nv]
def apm{l i k s lQ}(h:cT l i k s=true)(aq:s≠[])(hC:lQ≠[])(aN:s≠lQ):cT l i k lQ=false:=by
 unfold cT at h |-;split at h
 .cases h
 .rename_i t _;simp only[dr,jq,cG]at h;have U:=h.2.resolve_left aq
  have aF:(lQ==([]:List UInt8))=false:=by rw[eZ];exact hC
  have aK:(t.text==lQ)=false:=by rw[eZ,U];exact aN
  rw[aF,aK,Mk,wu]
def Piece.OB(h:Piece ts a n l):adE l:=by
 intro f al n2;rw[h.len]at n2;simp only[dr,cG]at n2
 have fin:∀{op i:Nat},op∈[1,2,3,4,5,6,7,8,9,10,11,12,13,14]->0<i->i<=n->bW l (w1 op) i=(n,true)->r3 op (ep [] (l.drop i)):=fun {op i} aT i1 i2 e=>by
  have q:=ah0 h (N:=n+1) (BP _) aT ⟨#[]⟩ i1 i2;rw[e]at q;unfold hb at q;split at q
  .obtain⟨j,_,q⟩:=q;cases q
  .obtain⟨j,_,_,q,p⟩:=q;cases q;exact(p rfl).2
 have pair:∀{x:Nat × Bool},x.2=true/\x.1=n->x=(n,true):=fun {x} ⟨bp,aP⟩=>by obtain⟨eG,ee⟩:=x;dsimp only at bp aP;rw[bp,aP]
 have D1:(f.2.getD 0 ⟨#[]⟩).data.toList=(cO f.2).getD 0 []:=by
  unfold cO;cases f.2 with
  |nil=>rfl
  |cons x xs=>rfl
 unfold zp;rw[D1]
 rcases Be f al with⟨p,aj,aF,aK⟩|⟨p,aj,aF,aK⟩
 .rw[aK,h.CG aj]at n2;rw[aK,a' (show(wH p).getD 0 []=[78]from rfl),aF];by_cases ct:cT l 0 1 []=true
  .rw[a' ct]at n2;by_cases aV:cT l 1 3 [61]=true
   .rw[a' aV]at n2;by_cases b4:cT l 2 1 p.1=true
    .rw[a' b4]at n2;have q:=pair n2
     have QP:2<n:=by have:=jh b4;rwa[h.len]at this
     have iU:(aJ.of ts).kind a=1:=by
      rw[h.sj]at ct;simp only[dr,cG]at ct;exact ct.1
     rcases h.r9 (i:=2) (by omega) (by omega)with⟨s,_,_,_,yk,_⟩|⟨v1,_⟩
     .rcases h.tj (i:=1) (by omega) (by omega) (s:=[61]) rfl with⟨_,_,_,_,lx,_⟩|⟨cq,_⟩
      .have oc:=h.nm (i:=0) (by omega)
       rw[oL,a' iU,lx,yk]at oc;rw[l3]at oc;rw[oc]
       exact⟨by simp,fin (ya p (lH _ aj)).2 (by omega) (by omega) q⟩
      .rw[aV]at cq;cases cq
     .rw[apL b4]at v1;cases v1
    .rw[bm b4]at n2;cases n2.1
   .rw[bm aV]at n2;cases n2.1
  .rw[bm ct]at n2;cases n2.1
 .rw[aK,h.ug aj]at n2;obtain⟨⟨c,c',s,Q6,aa⟩,aT⟩:=ya p (pf _ aj)
  have dq:(q3 p).getD 0 []≠[78]:=by unfold q3;rw[Q6];intro e;cases e
  rw[aK,bm dq,aF];by_cases ct:cT l 0 1 p.1=true
  .rw[a' ct]at n2;have q:=pair n2;have qh:=h.pos
   have iU:(aJ.of ts).kind a=1:=by
    rw[h.sj]at ct;simp only[dr,cG]at ct;exact ct.1
   have oc:=h.nm (i:=0) qh;rw[oL,a' iU,l3]at oc;rw[oc]
   exact⟨by simp,fin aT (by omega) (by omega) q⟩
  .rw[bm ct]at n2;cases n2.1
end
def aDA{l pr aZ}:∀(n:Nat) {a:Nat},a<=(mq l pr aZ n a).1:=by
 intro n
 induction n with
 |zero=>intro a;exact bS _
 |succ n aw=>
   intro a;rw[mq];split
   .split
    .exact Mn _
    .split
     .show a<=a+2;omega
     .obtain⟨b,af⟩:∃b,(if pr=true then a+3 else a+1)=b:=⟨_,rfl⟩
      have sI:a<=b:=by rw[<- af];split<;>omega
      rw[af];dsimp only;split
      .show a<=b+1;omega
      .split
       .have:=aw (a:=b+1);omega
       .exact sI
   .exact bS _
def au5{l pr aZ a}:a<=(k' l pr aZ a).1:=by
 unfold k';split
 .exact Mn _
 .exact aDA _
def Ii{l}:∀(is:List (List UInt8)) {a:Nat},a<=(bW l is a).1:=by
 intro is
 induction is with
 |nil=>intro a;exact bS _
 |cons it is aw=>
   intro a;have i1:=aw (a:=a+1);rw[bW];split
   .split
    .omega
    .exact bS _
   .split
    .split
     .omega
     .exact bS _
    .split
     .dsimp only;split<;>omega
     .split
      .split
       .have B:a+1<=(k' l (it==[91]) (if(it==[91])=true then[93]else[41]) (a+1)).1:=au5
        revert B
        generalize k' l (it==[91]) (if(it==[91])=true then[93]else[41]) (a+1)=r
        intro B;split
        .have:=aw (a:=r.1);omega
        .show a<=r.1;omega
       .exact bS _
      .split
       .omega
       .exact bS _
section
variable {ts:List Tok.T} {a n:Nat} {l:List Tok.T}
theorem Piece.sec(h:Piece ts a n l){s}(aq:(s==[])=false):nA (aJ.of ts) s a=((aJ.of ts).kind a==1&&cT l 1 3 s):=by
 rw[h.wd (i:=1) (by omega) h.pos (by decide),aq,o5]
 unfold nA;cases(aJ.of ts).kind a==1<;>cases(aJ.of ts).kind (a+1)==3<;>cases(aJ.of ts).text (a+1)==s<;>cases(aJ.of ts).same (a+1)<;>rfl
def afj{p}(aj:p∈k3)(w:cT l 1 1 []=false):(bW l (w1 p.2) 1).1<=1:=by
 unfold k3 at aj;simp only[kf,xa,vN]at aj
 rcases aj with rfl|rfl|rfl|rfl|rfl|rfl
 all_goals first
  |(show(bW l [[63]] 1).1<=1;rw[acE,w];exact bS _)
  |(show(bW l ([78]::_) 1).1<=1;rw[sh,w];exact bS _)
theorem aDe(s):(kI s).data.toList=s:=rfl
theorem aGI(h:Piece ts a n l){N}(dv:n<N)(k1:(aJ.of ts).kind a=1):match va (aJ.of ts) N a with
 |.error e=>∃j,e=a+j/\j5 l fq 1=.inr j
 |.ok (x,c)=>∃j,c=a+j/\j<=n/\0<j/\(j=n->∃f,j5 l fq 1=.inl f/\qR f.1 (f.2.getD 0 ⟨#[]⟩).data.toList (ep [] l) (gO 0 l)=x)/\(j<n->j5 l fq 1=.inr j):=by
 have qh:=h.pos
 have ct:cT l 0 1 []=true:=by rw[h.sj,k1];rfl
 have sT:∃c s,(aJ.of ts).text a=c::s:=by
  have:=h.le
  have hm:ts.getD a cU∈ts:=by
   rw[mI,dy (by omega)]
   exact wa _
  obtain⟨c,s,e,_⟩:=(h.mh _ hm).1 k1;exact⟨c,s,e⟩
 have D1:∀f:Nat × List ByteArray,(f.2.getD 0 ⟨#[]⟩).data.toList=(cO f.2).getD 0 []:=fun f=>by
  unfold cO;cases f.2 with
  |nil=>rfl
  |cons x xs=>rfl
 have Ba:∀{f:Nat × List ByteArray},(bW l (cO f.2) 0).2=false->oy l f=false:=fun {f} e=>by unfold oy;rw[e,nv]
 have Sy:=h.nm (i:=0) qh;rw[oL,a' k1,l3]at Sy;have RT:=h.F1 (i:=0) qh 0
 rw[oL,bm (by omega),l3]at RT
 have done:∀{op i:Nat} {f0:Nat × List ByteArray} {d:ByteArray},op∈[1,2,3,4,5,6,7,8,9,10,11,12,13,14]->0<i->i<=n->f0∈fq->bW l (cO f0.2) 0=bW l (w1 op) i->(∀f∈fq,f≠f0->oy l f=false/\(bW l (cO f.2) 0).1<=(bW l (cO f0.2) 0).1)->qR f0.1 (f0.2.getD 0 ⟨#[]⟩).data.toList (ep [] l) (gO 0 l)=l' op d (ep [] (l.drop i)) (gO 0 (l.drop i))->
  match Ao (aJ.of ts) N op { iC with op:=op,d:=d } (a+i)with
  |.error e=>∃j,e=a+j/\j5 l fq 1=.inr j
  |.ok (x,c)=>∃j,c=a+j/\j<=n/\0<j/\(j=n->∃f,j5 l fq 1=.inl f/\qR f.1 (f.2.getD 0 ⟨#[]⟩).data.toList (ep [] l) (gO 0 l)=x)/\(j<n->j5 l fq 1=.inr j):=by
  intro op i f0 d aT i1 i2 al aF f' aK
  have kY:i<=(bW l (cO f0.2) 0).1:=by rw[aF];exact Ii _
  have hE:=asy (l:=l) (f0:=f0) fq 1 f' (by omega) (.inl al) (fun h=>absurd al h)
  have q:=ah0 h dv aT d i1 i2;rw[<- aF]at q;revert q;cases Ao (aJ.of ts) N op { iC with op:=op,d:=d } (a+i)with
  |error e=>
    rintro⟨j,bp,aP⟩;refine⟨j,bp,?_⟩
    have:oy l f0=false:=Ba (by rw[aP])
    rw[hE,this,aP];rfl
  |ok p=>
    obtain⟨x,c⟩:=p;rintro⟨j,bp,aP,bj,c4⟩;rw[bj]at kY
    have G5:oy l f0=(j==n):=by unfold oy;rw[bj,h.len];rfl
    refine⟨j,bp,aP,by have:i<=j:=kY;omega,fun e=>⟨f0,?_,?_⟩,fun e=>?_⟩
    .rw[hE,G5,e,lz];rfl
    .rw[aK,(c4 e).1]
    .have:(j==n)=false:=by rw[eZ];omega
     rw[hE,G5,this,bj];rfl
 unfold va;rw[h.sec rfl,k1];cases bD:cT l 1 3 [61]with
 |true=>
   have RG:cT l 1 1 []=false:=afO bD (by decide)
   have QP:2<=n:=by have:=jh bD;rw[h.len]at this;omega
   have iG:∀p∈k8,cT l 2 1 p.1=false->bW l (wH p) 0=(2,false):=fun p aj e=>by
    rw[h.CG aj,ct,bD,e];rfl
   have fL:∀p∈k3,(bW l (q3 p) 0).1<=1:=fun p aj=>by
    rw[h.ug aj];split
    .exact afj aj RG
    .exact fa _
   have Uw:∀{f:Nat × List ByteArray} {p},p∈k3->cO f.2=q3 p->oy l f=false:=fun {f p} aj e=>by
    unfold oy;rw[e,h.len];have:=fL p aj
    have:((bW l (q3 p) 0).1==n)=false:=by rw[eZ];omega
    rw[this,wu]
   have QQ:(∀p∈k8,cT l 2 1 p.1=false)->j5 l fq 1=.inr 2:=fun hh=>by
    refine Lf fq 1 (fun f al=>?_) (by omega) (.inr ?_)
    .rcases Be f al with⟨p,aj,_,aK⟩|⟨p,aj,_,aK⟩
     .have:=iG p aj (hh p aj)
      exact⟨Ba (by rw[aK,this]),by rw[aK,this];exact bS _⟩
     .exact⟨Uw aj aK,by rw[aK];have:=fL p aj;omega⟩
    .obtain⟨f,al,_,aK⟩:=Ty.1 ([97,108,108,111,99,97],1) (by decide)
     have aj:(([97,108,108,111,99,97],1):List UInt8 × Nat)∈k8:=by decide
     exact⟨f,al,by rw[aK,iG _ aj (hh _ aj)]⟩
   rw[show((1:Nat)==1&&true)=true from rfl,a' rfl]
   have G4:∀s,cT l 2 1 s=(((aJ.of ts).same (a+2)&&(aJ.of ts).kind (a+2)==1)&&(s==[]||(aJ.of ts).text (a+2)==s)):=fun s=>h.wd (by omega) QP (by decide) s
   have afI:∀p∈k8,(p.1==([]:List UInt8))=false:=fun p aj=>by
    obtain⟨⟨c,c',s,e,_⟩,_⟩:=ya p (lH _ aj);rw[e];rfl
   by_cases aq:(aJ.of ts).same (a+2)=true
   .rw[a' aq];unfold wY;cases tS:tp k8 ((aJ.of ts).text (a+2))with
    |none=>
      obtain⟨c,s,e⟩:=sT;rw[aDe,e];dsimp only
      rw[bm (by simp)]
      refine⟨2,rfl,QQ fun p aj=>?_⟩;have dq:=UY tS p aj
      have:((aJ.of ts).text (a+2)==p.1)=false:=by rw[eZ];exact fun e=>dq e.symm
      rw[G4,afI p aj,this,Mk,wu]
    |some o=>
      have hm:=aoe tS;dsimp only;by_cases uC:(aJ.of ts).kind (a+2)=1
      .rw[a' uC]
       have b4:cT l 2 1 ((aJ.of ts).text (a+2))=true:=by rw[G4,aq,uC,lz,lz,B8];rfl
       have aus:3<=n:=by have:=jh b4;rw[h.len]at this;omega
       obtain⟨f0,lU,aF,aK⟩:=Ty.1 _ hm
       have E7:bW l (cO f0.2) 0=bW l (w1 o) 3:=by rw[aK,h.CG hm,ct,bD,b4];rfl
       have kY:3<=(bW l (cO f0.2) 0).1:=by rw[E7];exact Ii _
       refine done (ya _ (lH _ hm)).2 (by omega) aus lU E7 (fun f al dq=>?_) ?_
       .rcases Be f al with⟨p,aj,_,e3⟩|⟨p,aj,_,e3⟩
        .have aHC:cT l 2 1 p.1=false:=by
          cases hw:cT l 2 1 p.1 with
          |false=>rfl
          |true=>
            exfalso;rw[G4,afI p aj,o5]at hw;simp only[dr,cG]at hw;have:=aeQ.1 _ hm p aj hw.2
            exact dq (am2 f al f0 lU (by rw[e3,aK,this]))
         have:=iG p aj aHC
         exact⟨Ba (by rw[e3,this]),by rw[e3,this];show 2<=_;omega⟩
        .exact⟨Uw aj e3,by rw[e3];have:=fL p aj;omega⟩
       .rw[D1,aK,aF];unfold qR;rw[a' (show(wH ((aJ.of ts).text (a+2),o)).getD 0 []=[78]from rfl)]
        rcases h.tj (i:=1) (by omega) (by omega) (s:=[61]) rfl with⟨_,_,_,_,lx,pn⟩|⟨cq,_⟩
        .have bN:=h.nm (i:=2) (by omega)
         have u2:=h.F1 (i:=2) (by omega) 0
         rw[a' uC]at bN
         rw[bm (by omega)]at u2
         rw[Sy,lx,bN,RT,pn,u2];rfl
        .rw[bD]at cq;cases cq
      .rw[bm uC];refine⟨2,rfl,QQ fun p aj=>?_⟩
       have:((aJ.of ts).kind (a+2)==1)=false:=by rw[eZ];exact uC
       rw[G4,this,wu,nv]
   .rw[bm aq];rw[nz]at aq
    exact⟨2,rfl,QQ fun p _=>by rw[G4,aq,nv,nv]⟩
 |false=>
   rw[show((1:Nat)==1&&false)=false from rfl,bm BJ]
   have Jf:∀p∈k8,bW l (wH p) 0=(1,false):=fun p aj=>by
    rw[h.CG aj,ct,bD];rfl
   have sj:∀p∈k3,cT l 0 1 p.1=((aJ.of ts).text a==p.1):=fun p aj=>by
    obtain⟨⟨c,c',s,e,_⟩,_⟩:=ya p (pf _ aj);rw[h.sj,k1,e];rfl
   unfold wY;cases tS:tp k3 ((aJ.of ts).text a)with
   |none=>
     dsimp only;rw[a' rfl];refine⟨1,rfl,Lf fq 1 (fun f al=>?_) (bS _) (.inl rfl)⟩
     rcases Be f al with⟨p,aj,_,aK⟩|⟨p,aj,_,aK⟩
     .have:=Jf p aj
      exact⟨Ba (by rw[aK,this]),by rw[aK,this];exact bS _⟩
     .have dq:=UY tS p aj
      have e:((aJ.of ts).text a==p.1)=false:=by rw[eZ];exact fun e=>dq e.symm
      have:bW l (q3 p) 0=(0,false):=by rw[h.ug aj,sj p aj,e];rfl
      exact⟨Ba (by rw[aK,this]),by rw[aK,this];exact fa _⟩
   |some o=>
     have hm:=aoe tS;dsimp only;rw[a' k1];obtain⟨f0,lU,aF,aK⟩:=Ty.2 _ hm
     have E7:bW l (cO f0.2) 0=bW l (w1 o) 1:=by rw[aK,h.ug hm,sj _ hm,lz];rfl
     have kY:1<=(bW l (cO f0.2) 0).1:=by rw[E7];exact Ii _
     refine done (ya _ (pf _ hm)).2 (by omega) qh lU E7 (fun f al dq=>?_) ?_
     .rcases Be f al with⟨p,aj,_,e3⟩|⟨p,aj,_,e3⟩
      .have:=Jf p aj
       exact⟨Ba (by rw[e3,this]),by rw[e3,this];exact kY⟩
      .have e:((aJ.of ts).text a==p.1)=false:=by
        rw[eZ];intro e;have:=aeQ.2 _ hm p aj e
        exact dq (am2 f al f0 lU (by rw[e3,aK,this]))
       have:bW l (q3 p) 0=(0,false):=by rw[h.ug aj,sj p aj,e];rfl
       exact⟨Ba (by rw[e3,this]),by rw[e3,this];exact fa _⟩
     .rw[D1,aK,aF];unfold qR;obtain⟨⟨c,c',s,Q6,_⟩,_⟩:=ya _ (pf _ hm)
      rw[bm (by unfold q3;rw[Q6];intro e;cases e),Sy,RT]
      rfl
end
section
variable {ts:List Tok.T} {a n:Nat} {l:List Tok.T}
theorem Piece.dM(h:Piece ts a n l):bW l (cO lb) 0=if((aJ.of ts).kind a==3&&(aJ.of ts).text a==[125])=true then(1,true)else(0,false):=by
 show bW l ([125]::[]) 0=_
 rw[Fb h.xk _ _ (by decide) (by decide),h.sj,show(([125]:List UInt8)==[])=false from rfl,o5]
 rfl
def Piece.eY(h:Piece ts a n l):bW l (cO nd) 0=if(aJ.of ts).kind a=1 then(if nA (aJ.of ts) [58] a=true then(2,true)else(1,false))else(0,false):=by
 show bW l ([78]::[58]::[]) 0=_
 rw[sh,Fb h.xk _ _ (by decide) (by decide),h.sj,show(([]:List UInt8)==[])=true from rfl,tU,oX,h.sec rfl]
 by_cases k1:(aJ.of ts).kind a=1
 .rw[a' (by rw[k1];rfl),a' k1,k1]
  rfl
 .rw[bm (by rw[cG];exact k1),bm k1]
def Piece.Hd(h:Piece ts a n l)(k1:(aJ.of ts).kind a≠1)(b):j5 l fq b=.inr b:=by
 have ct:∀s,cT l 0 1 s=false:=fun s=>by
  rw[h.sj]
  have:((aJ.of ts).kind a==1)=false:=by rw[eZ];exact k1
  rw[this,nv]
 refine Lf fq b (fun f al=>?_) (bS _) (.inl rfl)
 have:bW l (cO f.2) 0=(0,false):=by
  rcases Be f al with⟨p,aj,_,aK⟩|⟨p,aj,_,aK⟩
  .rw[aK,h.CG aj,ct];rfl
  .rw[aK,h.ug aj,ct];rfl
 exact⟨by unfold oy;rw[this];rfl,by rw[this];exact fa _⟩
def Piece.aoR(h:Piece ts a n l)(aa:cT l 1 3 [58]=true)(U:2<n):j5 l fq 2=.inr 2:=by
 have RG:cT l 1 1 []=false:=afO aa (by decide)
 have aCJ:cT l 1 3 [61]=false:=apm aa (by decide) (by decide) (by decide)
 refine Lf fq 2 (fun f al=>?_) (bS _) (.inl rfl)
 have hI:(bW l (cO f.2) 0).1<=1:=by
  rcases Be f al with⟨p,aj,_,aK⟩|⟨p,aj,_,aK⟩
  .rw[aK,h.CG aj,aCJ];split
   .exact bS _
   .exact fa _
  .rw[aK,h.ug aj];split
   .exact afj aj RG
   .exact fa _
 refine⟨?_,by omega⟩
 unfold oy;rw[h.len]
 have:((bW l (cO f.2) 0).1==n)=false:=by rw[eZ];omega
 rw[this,wu]
end
theorem ayT{ts gs f a n t l}(aN:h3 t.line (ts.drop (a+1))+1=n)(ak:(ts.drop a).take n=l):tP ts gs (some f) a t=(if((bW l (cO lb) 0).2&&(bW l (cO lb) 0).1==n)=true then .ok (gs++[f],none,a+n)
 else if((bW l (cO nd) 0).2&&(bW l (cO nd) 0).1==n)=true then .ok (gs,some ⟨f.name,f.ps,f.blocks++[⟨⟨(l.getD 0 cU).text.toArray⟩,[]⟩]⟩,a+n)
 else match(if f.blocks=[]then .inr (max (bW l (cO lb) 0).1 (bW l (cO nd) 0).1)else j5 l fq (max (bW l (cO lb) 0).1 (bW l (cO nd) 0).1))with
  |.inl g=>.ok (gs,some ⟨f.name,f.ps,oJ f.blocks (qR g.1 (g.2.getD 0 ⟨#[]⟩).data.toList (ep [] l) (gO 0 l))⟩,a+n)
  |.inr be=>.error (a+be)):=by
 unfold tP;rw[aN];dsimp only;rw[ak]
 try rfl
theorem ai1{ts gs a n t l}(aN:h3 t.line (ts.drop (a+1))+1=n)(ak:(ts.drop a).take n=l):tP ts gs none a t=(if(!(bW l (cO lD) 0).2||decide ((bW l (cO lD) 0).1<n))=true then .error (a+(bW l (cO lD) 0).1)else .ok (gs,some ⟨⟨(l.getD 1 cU).text.toArray⟩,ep [] (l.drop 2),[]⟩,a+n)):=by
 unfold tP;rw[aN];dsimp only;rw[ak]
 try rfl
def B9{ts n a gs cur}(aY:(aJ.of ts).kind a≠4):jF ts (n+1) gs cur a=match tP ts gs cur a (ts.getD a cU)with
 |.error e=>.error e
 |.ok (w2,tB,b)=>jF ts n w2 tB b:=by
 rw[jF];exact bm aY
def avJ{ts}(bx:te ts)(mh:∀t∈ts,q5 t){N}(dv:ts.length<N)(nm ps):∀(m n:Nat) (gs:List hv) (bU:List mY) (a:Nat),a<ts.length->ts.length<=a+m->ts.length<=a+n->nf (aJ.of ts) a=false->
 match ng (aJ.of ts) N nm ps m bU a with
 |.error e=>jF ts n gs (some ⟨nm,ps,bU⟩) a=.error e
 |.ok (f,c)=>∃c3,c3<n/\jF ts n gs (some ⟨nm,ps,bU⟩) a=jF ts c3 (gs++[f]) none c/\c<ts.length/\ts.length<=c+c3/\a<c/\nf (aJ.of ts) c=false:=by
 intro m
 induction m with
 |zero=>intro n gs bU a aD hm;omega
 |succ m aw=>
   intro n gs bU a aD hm aN af
   obtain⟨n,rfl⟩:∃k,n=k+1:=⟨n-1,by omega⟩
   rw[ng,bm (by rw[af];decide)]
   by_cases aY:(aJ.of ts).kind a=4
   .have dS:((aJ.of ts).kind a==3)=false:=by rw[aY];rfl
    have aF:((aJ.of ts).kind a==1)=false:=by rw[aY];rfl
    have es:nA (aJ.of ts) [58] a=false:=by unfold nA;rw[aF,nv]
    have aK:((aJ.of ts).kind a != 1)=true:=by rw[aY];rfl
    rw[dS,nv,bm BJ,es,bm BJ,aK,tU,a' rfl,bm (by omega)]
    show jF ts (n+1) gs _ a=.error a;rw[jF];have:(ts.getD a cU).kind=4:=aY;rw[a' this];rfl
   .have a1:ts[a]?=some (ts.getD a cU):=by rw[mI,dy aD];rfl
    have aS:=KY bx mh a1 aY;obtain⟨k,an⟩:∃k,h3 (ts.getD a cU).line (ts.drop (a+1))+1=k:=⟨_,rfl⟩;obtain⟨l,ak⟩:∃l,(ts.drop a).take k=l:=⟨_,rfl⟩;rw[an,ak]at aS;have hI:=aS.le;have qh:=aS.pos;have nF:=fun(bU:List mY)=>ayT (gs:=gs) (f:=⟨nm,ps,bU⟩) an ak
    have more:∀(bU:List mY) (j:Nat),0<j->j<k->ng (aJ.of ts) N nm ps m bU (a+j)=.error (a+j):=fun bU j h2 hA=>by
     obtain⟨jw,rfl⟩:∃x,m=x+1:=⟨m-1,by omega⟩
     rw[ng,aS.H2 h2 (by omega),u1 hA,a' rfl]
    have last:nf (aJ.of ts) (a+k)=false:=by rw[aS.H2 qh (bS _),tD (y1 _)]
    have go:∀(pV:List mY),tP ts gs (some ⟨nm,ps,bU⟩) a (ts.getD a cU)=.ok (gs,some ⟨nm,ps,pV⟩,a+k)->match ng (aJ.of ts) N nm ps m pV (a+k)with
     |.error e=>jF ts (n+1) gs (some ⟨nm,ps,bU⟩) a=.error e
     |.ok (f,c)=>∃c3,c3<n+1/\jF ts (n+1) gs (some ⟨nm,ps,bU⟩) a=jF ts c3 (gs++[f]) none c/\c<ts.length/\ts.length<=c+c3/\a<c/\nf (aJ.of ts) c=false:=fun pV e=>by
     have q:=aw n gs pV (a+k) hI (by omega) (by omega) last
     have yy:jF ts (n+1) gs (some ⟨nm,ps,bU⟩) a=jF ts n gs (some ⟨nm,ps,pV⟩) (a+k):=by rw[B9 aY,e]
     revert q;cases ng (aJ.of ts) N nm ps m pV (a+k)with
     |error e=>intro q;exact yy.trans q
     |ok p=>
       obtain⟨f,c⟩:=p;rintro⟨c3,bp,aP,bj,c4,iu,iw⟩
       exact⟨c3,by omega,yy.trans aP,bj,c4,by omega,iw⟩
    have bad:∀e,tP ts gs (some ⟨nm,ps,bU⟩) a (ts.getD a cU)=.error e->jF ts (n+1) gs (some ⟨nm,ps,bU⟩) a=.error e:=fun e he=>by rw[B9 aY,he]
    by_cases tW:((aJ.of ts).kind a==3&&(aJ.of ts).text a==[125])=true
    .have k1:(aJ.of ts).kind a≠1:=by
      simp only[dr,cG]at tW;omega
     rw[a' tW];have ck:=aS.dM;rw[a' tW]at ck;have aF:=aS.eY;rw[bm k1]at aF;by_cases axb:1<k
     .have:nf (aJ.of ts) (a+1)=true:=by rw[aS.H2 (by omega) qh,u1 axb]
      rw[a' this];refine bad _ ?_
      have cw:((1:Nat)==k)=false:=by rw[eZ];omega
      rw[nF,ck,aF];dsimp only;simp only[cw,wu,nv,lk,gx,aS.Hd k1];split
      .rename_i g bb;split at bb<;>cases bb
      .rename_i be bb;split at bb<;>cases bb<;>rfl
     .obtain rfl:k=1:=by omega
      rw[bm (by rw[last];decide)]
      refine⟨n,BP _,?_,hI,by omega,BP _,last⟩
      rw[B9 aY,nF,ck];rfl
    .rw[bm tW];have ck:=aS.dM;rw[bm tW]at ck;have aF:=aS.eY;by_cases EH:nA (aJ.of ts) [58] a=true
     .rw[a' EH];have aq:=EH;rw[aS.sec rfl]at aq;simp only[dr,cG]at aq;rw[a' aq.1,a' EH]at aF
      have aJH:2<=k:=by have:=jh aq.2;rw[aS.len]at this;omega
      by_cases uC:2<k
      .have:=more (bU++[⟨kI ((aJ.of ts).text a),[]⟩]) 2 (by omega) uC
       rw[this];refine bad _ ?_
       have bN:((2:Nat)==k)=false:=by rw[eZ];omega
       rw[nF,ck,aF];dsimp only;have aP:j5 l fq (max 0 2)=.inr 2:=aS.aoR aq.2 uC;simp only[bN,wu,nv,lk,gx,aP];split
       .rename_i g bb;split at bb<;>cases bb
       .rename_i be bb;split at bb<;>cases bb<;>rfl
      .obtain rfl:k=2:=by omega
       refine go _ ?_
       have g0:l.getD 0 cU=ts.getD a cU:=by
        have:=aS.at qh;rw[oL]at this;rw[mI,this];rfl
       rw[nF,ck,aF,g0];rfl
     .rw[bm EH]
      by_cases jf:((aJ.of ts).kind a != 1||bU.length==0)=true
      .rw[a' jf];by_cases k1:(aJ.of ts).kind a=1
       .rw[a' k1]
        have ml:bU=[]:=by
         rw[k1,show((1:Nat) != 1)=false from rfl,o5,cG]at jf;exact lO jf
        subst ml;rw[a' k1,bm EH]at aF;refine bad _ ?_;rw[nF,ck,aF];rfl
       .rw[bm k1];rw[bm k1]at aF;refine bad _ ?_;rw[nF,ck,aF];simp only[nv,lk,gx,aS.Hd k1];split
        .rename_i g bb;split at bb<;>cases bb
        .rename_i be bb;split at bb<;>cases bb<;>rfl
      .rw[bm jf];rw[jq,zU,hU,GF,cG]at jf
       have ml:bU≠[]:=fun e=>jf.2 (by rw[e];rfl)
       have k1:=jf.1;rw[a' k1,bm EH]at aF
       have q:=aGI aS (N:=N) (by omega) k1
       have Q':tP ts gs (some ⟨nm,ps,bU⟩) a (ts.getD a cU)=(match j5 l fq 1 with
        |.inl g=>.ok (gs,some ⟨nm,ps,oJ bU (qR g.1 (g.2.getD 0 ⟨#[]⟩).data.toList (ep [] l) (gO 0 l))⟩,a+k)
        |.inr be=>.error (a+be)):=by
        rw[nF,ck,aF];simp only[nv,lk,gx,ml];rfl
       revert q;cases hi:va (aJ.of ts) N a with
       |error e=>
         rintro⟨j,rfl,q⟩;rw[kt hi]
         exact bad _ (by rw[Q',q])
       |ok p=>
         obtain⟨x,c⟩:=p;rintro⟨j,rfl,bp,kK,aP,bj⟩;rw[iz hi];by_cases br:j=k
         .subst br;obtain⟨f,c4,iu⟩:=aP rfl;refine go _ ?_;rw[Q',c4];dsimp only;rw[iu]
         .have rY:j<k:=by omega
          rw[more _ j kK rY]
          exact bad _ (by rw[Q',bj rY])
abbrev C1:Nat:=19
def vR:=[1,2]++List.range' 4 193
def aaR:=[c0 4 (b1 0)]
def KD:=q 3 (.alloc [dc,dc])::aaR
def KJ:=[c0 2 rM]
def Pb:=KJ++KD
def Cn:=List.range' 1 196
def aww(call:c5)(it:gS)(base f H):aC call it base (.region Pb [] vR) f H=Em call it base KD vR H (iO (lZ KJ Cn []) Cn f H) (Aq call it base Pb vR f H):=MX call it base KJ KD (by kernel_rfl) f H
def UM:=[ai 11 0,q 12 (.dD .p (.t 11)),q 13 (.bin .gtr (.t 12) (b1 1048576))]
def UA:=[c0 4 (b1 2)]
def aof:=dt 2 3 14::UA
def aFV:=[q 14 (.build [dc,dc] [(0,1),(1,1)] []),c0 2 rM]
def adj:=aFV++aof
def am0:=[c0 5 rM]
def agC:=[c0 6 (b1 0)]
def YD:=[ai 15 6,ai 16 0,q 17 (.dD .p (.t 16)),q 18 (.bin .lss (.t 15) (.t 17))]
def agS:=[ai 19 0,ai 20 6,q 21 (.h6 (.t 19) (.t 20)),ai 7 21]
def ab9:=[ai 22 6,ai 8 22]
def abm:=[ai 27 7,q 28 (.bin .eql (.t 27) (cK 32)),ai 29 28,da 30 7 29 false,bQ 31 (.bin .eql (.t 30) (cK 9)) 29 false,ev 32 (.t 29) gk (.t 31),ai 33 32,da 34 7 33 false,bQ 35 (.bin .eql (.t 34) (cK 13)) 33 false,ev 36 (.t 33) gk (.t 35),ai 37 36,da 38 7 37 false,bQ 39 (.bin .eql (.t 38) (cK 10)) 37 false,ev 40 (.t 37) gk (.t 39),ai 26 40]
def aar:=[ai 41 6,q 42 (.bin .add (.t 41) (b1 1)),ai 6 42]
def ac2:=[ai 44 7,q 45 (.bin .eql (.t 44) (cK 59)),ai 43 45]
def afB:=[ai 46 6,ai 47 0,q 48 (.dD .p (.t 47)),q 49 (.bin .lss (.t 46) (.t 48)),ai 50 49,da 51 0 50 true,da 52 6 50 true,bQ 53 (.h6 (.t 51) (.t 52)) 50 true,bQ 54 (.bin .neq (.t 53) (cK 10)) 50 true,ev 55 (.t 50) (.t 54) dP]
def akR:=[ai 56 6,q 57 (.bin .add (.t 56) (b1 1)),ai 6 57]
def RL:cM:=
 (.seq (.seq (.bc afB [46,47,48,49,50,51,52,53,54] [55])
 (.cond (.t 55)
 .skip
 (.exit 3)))
 (.block 4
 (.bc akR [55,56,57] [6])))
def Ov:cM:=RL
def af3:=[ai 58 60]
def ZL:=c2 60 40 [.t 59]::af3
def ayV:=[ai 59 7]
def T2:=ayV++ZL
def YM:=[bQ 75 (.pick (.t 70) gk (.t 74)) 65 true,da 76 75 65 true,da 77 0 76 false,da 78 6 76 false,bQ 79 (.h6 (.t 77) (.t 78)) 76 false,bQ 80 (.bin .eql (.t 79) (cK 46)) 76 false,bQ 81 (.pick (.t 76) gk (.t 80)) 65 true,ev 82 (.t 65) (.t 81) dP]
def agl:=bQ 74 (.call (.c (.fn 41 [] [])) [.t 73]) 70 false::YM
def amN:=bQ 73 (.h6 (.t 71) (.t 72)) 70 false::agl
def Vy:=da 72 6 70 false::amN
def ai2:=da 71 0 70 false::Vy
def abh:=da 70 69 65 true::ai2
def amH:=bQ 69 (.call (.c (.fn 40 [] [])) [.t 68]) 65 true::abh
def ahi:=bQ 68 (.h6 (.t 66) (.t 67)) 65 true::amH
def anz:=da 67 6 65 true::ahi
def ans:=da 66 0 65 true::anz
def aqJ:=[ai 61 6,ai 62 0,q 63 (.dD .p (.t 62)),q 64 (.bin .lss (.t 61) (.t 63)),ai 65 64]
def agw:=aqJ++ans
def W4:=[ai 83 6,q 84 (.bin .add (.t 83) (b1 1)),ai 6 84]
def S5:cM:=
 (.seq (.seq (.region agw [] [61,62,63,64,65,66,67,68,69,70,71,72,73,74,75,76,77,78,79,80,81])
 (.cond (.t 82)
 .skip
 (.exit 5)))
 (.block 6
 (.bc W4 [82,83,84] [6])))
def OV:cM:=S5
def aav:=[ai 5 95]
def aj3:=q 95 (.append 5 48 (.t 85) (.t 94))::aav
def ahu:=q 94 (.fy 5 1 [ec,cm,dc,dc,dc] [(0,.t 93)])::aj3
def aIF:=[q 93 (.build [ec,cm,dc,dc,dc] [(0,1),(1,1),(2,1),(3,2)] [(0,cK 1),(1,.t 89),(3,.t 92)])]
def WL:=aIF++ahu
def ali:=c2 92 42 [.t 90,.t 91]::WL
def apw:=[ai 85 5,ai 86 0,ai 87 8,ai 88 6,q 89 (.mT (.t 86) (some (.t 87)) (some (.t 88))),ai 90 0,ai 91 8]
def WJ:=apw++ali
def ahH:=[ai 96 98]
def U5:=c2 98 41 [.t 97]::ahH
def ayo:=[ai 97 7]
def aiU:=ayo++U5
def UD:=[c0 9 (b1 0)]
def T1:=[ev 108 (.t 103) (.t 107) dP]
def W5:=bQ 107 (.call (.c (.fn 41 [] [])) [.t 106]) 103 true::T1
def ahl:=bQ 106 (.h6 (.t 104) (.t 105)) 103 true::W5
def aen:=da 105 6 103 true::ahl
def alg:=da 104 0 103 true::aen
def aIw:=[ai 99 6,ai 100 0,q 101 (.dD .p (.t 100)),q 102 (.bin .lss (.t 99) (.t 101)),ai 103 102]
def afe:=aIw++alg
def af1:=[ai 109 6,ai 110 8,q 111 (.bin .sub (.t 109) (.t 110)),q 112 (.bin .lss (.t 111) (b1 9))]
def anY:=[ai 113 9,q 114 (.bin .mul (b1 10) (.t 113)),ai 115 0,ai 116 6,q 117 (.h6 (.t 115) (.t 116)),q 118 (.bin .sub (.t 117) (cK 48)),q 119 (.conv .i64 (.t 118)),q 120 (.bin .add (.t 114) (.t 119)),ai 9 120]
def ajE:=[ai 121 6,q 122 (.bin .add (.t 121) (b1 1)),ai 6 122]
def Ns:cM:=
 (.seq (.seq (.region afe [] [99,100,101,102,103,104,105,106,107])
 (.cond (.t 108)
 .skip
 (.exit 7)))
 (.block 8
 (.seq (.seq (.bc af1 [108,109,110,111] [112])
 (.cond (.t 112)
 (.bc anY [112,113,114,115,116,117,118,119,120] [9])
 .skip))
 (.bc ajE [112,121,122] [6]))))
def O7:cM:=Ns
def aj7:=[da 132 131 127 true,da 133 0 132 false,da 134 6 132 false,bQ 135 (.h6 (.t 133) (.t 134)) 132 false,bQ 136 (.bin .eql (.t 135) (cK 46)) 132 false,bQ 137 (.pick (.t 132) gk (.t 136)) 127 true,ev 138 (.t 127) (.t 137) dP,ai 10 138]
def ajA:=bQ 131 (.call (.c (.fn 40 [] [])) [.t 130]) 127 true::aj7
def YH:=bQ 130 (.h6 (.t 128) (.t 129)) 127 true::ajA
def ab8:=da 129 6 127 true::YH
def aoc:=da 128 0 127 true::ab8
def auK:=[ai 123 6,ai 124 0,q 125 (.dD .p (.t 124)),q 126 (.bin .lss (.t 123) (.t 125)),ai 127 126]
def adA:=auK++aoc
def agr:=[ai 139 6,ai 140 8,q 141 (.bin .sub (.t 139) (.t 140)),q 142 (.bin .gtr (.t 141) (b1 9)),ai 143 142,da 144 6 143 false,da 145 8 143 false,bQ 146 (.bin .sub (.t 144) (.t 145)) 143 false,bQ 147 (.bin .gtr (.t 146) (b1 1)) 143 false,da 148 147 143 false,da 149 7 148 true,bQ 150 (.bin .eql (.t 149) (cK 48)) 148 true,bQ 151 (.pick (.t 148) (.t 150) dP) 143 false,ev 152 (.t 143) gk (.t 151),ai 153 152,da 154 10 153 false,ev 155 (.t 153) gk (.t 154)]
def afH:=[c0 4 (b1 31)]
def ajk:=dt 2 3 158::afH
def aE8:=[c0 2 rM]
def ZA:=aE8++ajk
def amt:=c2 158 42 [.t 156,.t 157]::ZA
def atQ:=[ai 156 0,ai 157 8]
def WY:=atQ++amt
def Xx:=[ai 5 170]
def alI:=q 170 (.append 5 48 (.t 159) (.t 169))::Xx
def WV:=q 169 (.fy 5 1 [ec,cm,dc,dc,dc] [(0,.t 168)])::alI
def ayO:=[q 168 (.build [ec,cm,dc,dc,dc] [(0,1),(1,1),(2,1),(3,2)] [(0,cK 2),(1,.t 163),(2,.t 164),(3,.t 167)])]
def ag0:=ayO++WV
def Ua:=c2 167 42 [.t 165,.t 166]::ag0
def aCy:=[ai 159 5,ai 160 0,ai 161 8,ai 162 6,q 163 (.mT (.t 160) (some (.t 161)) (some (.t 162))),ai 164 9,ai 165 0,ai 166 8]
def UP:=aCy++Ua
def alE:=[ai 171 173]
def Zf:=c2 173 43 [.t 172]::alE
def aGk:=[ai 172 7]
def Zu:=aGk++Zf
def aiL:=[ai 174 6,q 175 (.bin .add (.t 174) (b1 1)),ai 6 175]
def Wf:=[ai 5 186]
def ail:=q 186 (.append 5 48 (.t 176) (.t 185))::Wf
def amF:=q 185 (.fy 5 1 [ec,cm,dc,dc,dc] [(0,.t 184)])::ail
def aIG:=[q 184 (.build [ec,cm,dc,dc,dc] [(0,1),(1,1),(2,1),(3,2)] [(0,cK 3),(1,.t 180),(3,.t 183)])]
def VG:=aIG++amF
def XX:=c2 183 42 [.t 181,.t 182]::VG
def aH5:=[ai 176 5,ai 177 0,ai 178 8,ai 179 6,q 180 (.mT (.t 177) (some (.t 178)) (some (.t 179))),ai 181 0,ai 182 8]
def abc:=aH5++XX
def aj5:=[c0 4 (b1 30)]
def ag4:=dt 2 3 25::aj5
def awE:=[c0 2 rM]
def afC:=awE++ag4
def aih:=c2 25 42 [.t 23,.t 24]::afC
def ax5:=[ai 23 0,ai 24 8]
def ana:=ax5++aih
def Q2:cM:=
 (.seq (.seq (.bc YD [15,16,17] [18])
 (.cond (.t 18)
 .skip
 (.exit 0)))
 (.block 1
 (.seq (.bc agS [18,19,20,21] [7])
 (.seq (.bc ab9 [22] [8])
 (.block 2
 (.seq (.bc abm [27,28,29,30,31,32,33,34,35,36,37,38,39,40] [26])
 (.cond (.t 26)
 (.bc aar [7,8,26,41,42] [6])
 (.seq (.bc ac2 [26,44,45] [43])
 (.cond (.t 43)
 (.block 3
 (.loop [7,8,43] Ov))
 (.seq (.region T2 [] [43,59,60])
 (.cond (.t 58)
 (.seq (.block 5
 (.loop [7,58] OV))
 (.region WJ [] [8,82,85,86,87,88,89,90,91,92,93,94,95]))
 (.seq (.region aiU [] [58,97,98])
 (.cond (.t 96)
 (.seq (.bc UD [96] [9])
 (.seq (.block 7
 (.loop [] O7))
 (.seq (.region adA [] [108,123,124,125,126,127,128,129,130,131,132,133,134,135,136,137,138])
 (.seq (.seq (.bc agr [7,10,139,140,141,142,143,144,145,146,147,148,149,150,151,152,153,154] [155])
 (.cond (.t 155)
 (.seq (.region WY [] [0,5,6,8,9,155,156,157,158])
 .ret)
 .skip))
 (.region UP [] [8,9,155,159,160,161,162,163,164,165,166,167,168,169,170])))))
 (.seq (.region Zu [] [7,96,172,173])
 (.cond (.t 171)
 (.seq (.bc aiL [171,174,175] [6])
 (.region abc [] [8,176,177,178,179,180,181,182,183,184,185,186]))
 (.seq (.region ana [] [0,5,6,8,23,24,25,171])
 .ret))))))))))))))))
def p7:cM:=Q2
def XT:=[ai 5 194]
def ach:=q 194 (.append 5 48 (.t 187) (.t 193))::XT
def ahg:=q 193 (.fy 5 1 [ec,cm,dc,dc,dc] [(0,.t 192)])::ach
def av8:=[q 192 (.build [ec,cm,dc,dc,dc] [(0,1),(1,1),(2,1),(3,2)] [(0,cK 4),(3,.t 191)])]
def adi:=av8++ahg
def acV:=c2 191 42 [.t 188,.t 190]::adi
def awL:=[ai 187 5,ai 188 0,ai 189 0,q 190 (.dD .p (.t 189))]
def ajw:=awL++acV
def afM:=[c0 4 (b1 0)]
def ahb:=dt 2 3 196::afM
def aFC:=[ai 195 5,q 196 (.build [dc,dc] [(0,1),(1,1)] []),ai 2 195]
def adG:=aFC++ahb
def rn:eI:={ ntmps:=197,results:=[.tmp 2,.cell 3 true 2,.tmp 4],body:=
 (.seq (.region Pb [] vR)
 (.seq (.seq (.bc UM [11,12] [13])
 (.cond (.t 13)
 (.seq (.region adj [] [0,13,14])
 .ret)
 .skip))
 (.seq (.bc am0 [13] [5])
 (.seq (.bc agC [] [6])
 (.seq (.block 0
 (.loop [55] p7))
 (.seq (.region ajw [] [0,6,18,187,188,189,190,191,192,193,194])
 (.seq (.region adG [] [5,195,196])
 .ret))))))) }
theorem N1:gF (List.range' 1 (rn.ntmps-1)) rn.body=true:=by kernel_rfl
abbrev JD:Nat:=40
def Ih:=List.range' 1 20
theorem ayx:hV Ih (gC 21 [] 1)=[]:=by kernel_rfl
def Yc:=[c0 2 dP]
def aam:=[ai 3 0,q 4 (.bin .geq (.t 3) (cK 97)),ai 5 4,da 6 0 5 true,bQ 7 (.bin .leq (.t 6) (cK 122)) 5 true,ev 8 (.t 5) (.t 7) dP,ai 9 8,da 10 0 9 false,bQ 11 (.bin .geq (.t 10) (cK 65)) 9 false,da 12 11 9 false,da 13 0 12 true,bQ 14 (.bin .leq (.t 13) (cK 90)) 12 true,bQ 15 (.pick (.t 12) (.t 14) dP) 9 false,ev 16 (.t 9) gk (.t 15),ai 17 16,da 18 0 17 false,bQ 19 (.bin .eql (.t 18) (cK 95)) 17 false,ev 20 (.t 17) gk (.t 19),ai 2 20]
def xA:eI:={ ntmps:=21,results:=[.tmp 2],body:=
 (.seq (.bc Yc Ih [])
 (.seq (.bc aam [0,3,4,5,6,7,8,9,10,11,12,13,14,15,16,17,18,19,20] [2])
 .ret)) }
abbrev Hg:Nat:=41
def Ju:=List.range' 1 8
theorem aEB:hV Ju (gC 9 [] 1)=[]:=by kernel_rfl
def V1:=[c0 2 dP]
def aj4:=[ai 3 0,q 4 (.bin .geq (.t 3) (cK 48)),ai 5 4,da 6 0 5 true,bQ 7 (.bin .leq (.t 6) (cK 57)) 5 true,ev 8 (.t 5) (.t 7) dP,ai 2 8]
def xI:eI:={ ntmps:=9,results:=[.tmp 2],body:=
 (.seq (.bc V1 Ju [])
 (.seq (.bc aj4 [0,3,4,5,6,7,8] [2])
 .ret)) }
abbrev Qu:Nat:=42
def GS:=[2,3]++List.range' 5 19
def abL:=[q 4 (.alloc [dc,dc])]
def UZ:=[c0 5 (b1 1),c0 6 (b1 1)]
def abA:=[c0 7 (b1 0)]
def ahK:=[ai 8 7,ai 9 1,q 10 (.bin .lss (.t 8) (.t 9))]
def aeO:=[ai 13 6,q 14 (.bin .add (.t 13) (b1 1)),ai 6 14]
def akn:=[ai 15 0,ai 16 7,q 17 (.h6 (.t 15) (.t 16)),q 18 (.bin .eql (.t 17) (cK 10))]
def ajr:=[ai 19 5,q 20 (.bin .add (.t 19) (b1 1)),ai 5 20]
def adr:=[c0 6 (b1 1)]
def Zd:=[ai 11 7,q 12 (.bin .add (.t 11) (b1 1)),ai 7 12]
def Np:cM:=
 (.seq (.seq (.bc ahK [8,9] [10])
 (.cond (.t 10)
 .skip
 (.exit 0)))
 (.seq (.block 1
 (.seq (.bc aeO [10,13,14] [6])
 (.seq (.bc akn [15,16,17] [18])
 (.cond (.t 18)
 (.seq (.bc ajr [6,18,19,20] [5])
 (.bc adr [] [6]))
 .skip))))
 (.bc Zd [11,12,18] [7])))
def QL:cM:=Np
def ahd:=[dt 2 4 23]
def auQ:=[ai 21 5,ai 22 6,q 23 (.build [dc,dc] [(0,1),(1,1)] [(0,.t 21),(1,.t 22)])]
def aeM:=auQ++ahd
def vz:eI:={ ntmps:=24,results:=[.cell 4 true 2],body:=
 (.seq (.region abL [] GS)
 (.seq (.bc UZ [] [5,6])
 (.seq (.seq (.bc abA [] [7])
 (.block 0
 (.loop [] QL)))
 (.seq (.region aeM [] [0,1,5,6,7,10,21,22,23])
 .ret)))) }
theorem aGS:gF (List.range' 2 (vz.ntmps-2)) vz.body=true:=by kernel_rfl
abbrev P8:Nat:=43
def I5:=List.range' 1 15
theorem aoV:hV I5 (gC 16 [] 1)=[]:=by kernel_rfl
def af8:=[c0 2 dP]
def ade:=[c0 3 (cv #[61,44,58,40,41,123,125,91,93])]
def amM:=[c0 4 (b1 0)]
def UX:=[ai 5 4,ai 6 3,q 7 (.dD .p (.t 6)),q 8 (.bin .lss (.t 5) (.t 7))]
def Z0:=[ai 11 3,ai 12 4,q 13 (.h6 (.t 11) (.t 12)),ai 14 0,q 15 (.bin .eql (.t 13) (.t 14))]
def ajQ:=[c0 2 gk]
def ajy:=[ai 9 4,q 10 (.bin .add (.t 9) (b1 1)),ai 4 10]
def QK:cM:=
 (.seq (.seq (.bc UX [5,6,7] [8])
 (.cond (.t 8)
 .skip
 (.exit 0)))
 (.seq (.block 1
 (.seq (.bc Z0 [8,11,12,13,14] [15])
 (.cond (.t 15)
 (.seq (.bc ajQ [0,3,4,15] [2])
 .ret)
 .skip)))
 (.bc ajy [9,10,15] [4])))
def Q4:cM:=QK
def aab:=[c0 2 dP]
def xM:eI:={ ntmps:=16,results:=[.tmp 2],body:=
 (.seq (.bc af8 I5 [])
 (.seq (.bc ade [] [3])
 (.seq (.seq (.bc amM [] [4])
 (.block 0
 (.loop [] Q4)))
 (.seq (.bc aab [0,3,4,8] [2])
 .ret)))) }
def jD:=I (bE Cn 0) (I (bn Cn 2) (I (bn Cn 3) (I (bn Cn 4) (I (aR KJ Cn [] 3 [] [] [.cI (.s (.slice none 0 0))]) (I aww (I (aS KD [] vR) (I (dB aaR vR [] 5 [] [] [.cI (.s (.int .i64 0))]) (I (bE vR 0) (I (bn vR 2) (I (bE vR 3) (I (bn vR 4) (I (aR UM [11,12] [13] 14 [] [(13,jK .gtr 1048576 (.op (.dD .p (.t 0)) [.t 0]))] [.ay 0,ad [0],ad []]) (I (bl adj [0,13] [14,2] [0,13,14] 15 [] [(14,.op (.build [.s (.int .i64 0),.s (.int .i64 0)] [(0,1),(1,1)] []) []),(2,.c (.s (.slice none 0 0)))] [ad [],.cI (.s (.slice none 0 0))]) (I (aS aof [14] [0,13,14]) (I (dB UA [0,13,14] [4] 5 [] [(4,jz 2)] [.cI (.s (.int .i64 2))]) (I (aR am0 [13] [5] 6 [] [(5,.c (.s (.slice none 0 0)))] [.cI (.s (.slice none 0 0))]) (I (aR agC [] [6] 7 [] [(6,jz 0)] [.cI (.s (.int .i64 0))]) (I (aR YD [15,16,17] [18] 19 [] [(18,eS .lss (.t 6) (.op (.dD .p (.t 0)) [.t 0]))] [.ay 6,.ay 0,ad [1],ad []]) (I (aR agS [18,19,20,21] [7] 22 [] [(7,.op (.h6 (.t 0) (.t 1)) [.t 0,.t 6])] [.ay 0,.ay 6,ad [],ad []]) (I (aR ab9 [22] [8] 23 [] [(8,.t 6)] [.ay 6,.ay 6]) (I (aR abm [27,28,29,30,31,32,33,34,35,36,37,38,39,40] [26] 41 [] [(26,.pick (.pick (.pick (hj 32 (.t 7)) hH (hj 9 (.t 7))) hH (hj 13 (.t 7))) hH (hj 10 (.t 7)))] [.ay 7,ad [0,0,0],ad [0,0,0],.sub 0 [0,0,2,0] [29],.sub 0 [0,0,2] [29],ad [0,0],ad [0,0],.sub 0 [0,2,0] [33],.sub 0 [0,2] [33],ad [0],ad [0],.sub 0 [2,0] [37],.sub 0 [2] [37],ad [],ad []]) (I (aR aar [7,8,26,41,42] [6] 43 [] [(6,fV 1 (.t 6))] [.ay 6,ad [],ad []]) (I (aR ac2 [26,44,45] [43] 46 [] [(43,hj 59 (.t 7))] [.ay 7,ad [],ad []]) (I (aR afB [46,47,48,49,50,51,52,53,54] [55] 56 [] [(55,.pick (eS .lss (.t 6) (.op (.dD .p (.t 0)) [.t 0])) (lF .neq 10 (.op (.h6 (.t 0) (.t 1)) [.t 0,.t 6])) (.c (.s (.bool false))))] [.ay 6,.ay 0,ad [0,1],ad [0],ad [0],.sub 0 [1,0,0] [50],.sub 0 [1,0,1] [50],.sub 0 [1,0] [50],.sub 0 [1] [50],ad []]) (I (aR akR [55,56,57] [6] 58 [] [(6,fV 1 (.t 6))] [.ay 6,ad [],ad []]) (I (bx Ov RL) (I (bl T2 [43] [59] [43,59,60] 60 [] [(59,.t 7)] [.ay 7]) (I (aS ZL [59] [43,59,60]) (I (dB af3 [43,59,60] [58] 59 [] [(58,.t 60)] [.ay 60]) (I (bl agw [61,62,63,64] [65] w9 66 [] [(65,eS .lss (.t 6) (.op (.dD .p (.t 0)) [.t 0]))] [.ay 6,.ay 0,ad [1],ad [],ad []]) (I (aS ans [] w9) (I (aS anz [] w9) (I (aS ahi [66,67] w9) (I (aS amH [68] w9) (I (aS abh [69] w9) (I (aS ai2 [] w9) (I (aS Vy [] w9) (I (aS amN [71,72] w9) (I (aS agl [73] w9) (I (dB YM [61,62,63,64,65,66,67,68,69,70,71,72,73,74,75,76,77,78,79,80,81] [82] 83 [] [(82,.pick (.t 65) (.pick (.pick (.t 70) (.c (.s (.bool true))) (.t 74)) (.c (.s (.bool true))) (hj 46 (.op (.h6 (.t 0) (.t 1)) [.t 0,.t 6]))) (.c (.s (.bool false))))] [.sub 0 [1,0] [65],.sub 0 [1,0] [65],.sub 0 [1,2,0,0] [65,76],.sub 0 [1,2,0,1] [65,76],.sub 0 [1,2,0] [65,76],.sub 0 [1,2] [65,76],.sub 0 [1] [65],ad []]) (I (aR W4 [82,83,84] [6] 85 [] [(6,fV 1 (.t 6))] [.ay 6,ad [],ad []]) (I (bx OV S5) (I (bl WJ [5,8,82,86,87,88] [85,89,90,91] GY 92 [] [(85,.t 5),(89,.op (.mT (.t 0) (some (.t 1)) (some (.t 2))) [.t 0,.t 8,.t 6]),(90,.t 0),(91,.t 8)] [.ay 5,.ay 0,.ay 8,.ay 6,.sub 1 [] [],.ay 0,.ay 8]) (I (aS ali [90,91] GY) (I (bl WL [89,92] [93] GY 94 [] [(93,.op (.build [.s (.int .u8 0),.s (.string ⟨#[]⟩),.s (.int .i64 0),.s (.int .i64 0),.s (.int .i64 0)] [(0,1),(1,1),(2,1),(3,2)] [(0,.c (.s (.int .u8 1))),(1,.t 1),(3,.t 2)]) [.c (.s (.int .u8 1)),.t 89,.t 92])] [ad []]) (I (aS ahu [93] GY) (I (aS aj3 [85,94] GY) (I (dB aav [8,82,85,86,87,88,89,90,91,92,93,94,95] [5] 6 [] [(5,.t 95)] [.ay 95]) (I (bl aiU [58] [97] [58,97,98] 98 [] [(97,.t 7)] [.ay 7]) (I (aS U5 [97] [58,97,98]) (I (dB ahH [58,97,98] [96] 97 [] [(96,.t 98)] [.ay 98]) (I (aR UD [96] [9] 10 [] [(9,jz 0)] [.cI (.s (.int .i64 0))]) (I (bl afe [99,100,101,102] [103] Hr 104 [] [(103,eS .lss (.t 6) (.op (.dD .p (.t 0)) [.t 0]))] [.ay 6,.ay 0,ad [1],ad [],ad []]) (I (aS alg [] Hr) (I (aS aen [] Hr) (I (aS ahl [104,105] Hr) (I (aS W5 [106] Hr) (I (dB T1 [99,100,101,102,103,104,105,106,107] [108] 109 [] [(108,.pick (.t 103) (.t 107) ht)] [ad []]) (I (aR af1 [108,109,110,111] [112] 113 [] [(112,jK .lss 9 (eS .sub (.t 6) (.t 8)))] [.ay 6,.ay 8,ad [0],ad []]) (I (aR anY [112,113,114,115,116,117,118,119,120] [9] 121 [] [(9,eS .add (.op (.bin .mul (.c (.s (.int .i64 10))) (.t 1)) [.c (.s (.int .i64 10)),.t 9]) (.op (.conv .i64 (.t 0)) [lF .sub 48 (.op (.h6 (.t 0) (.t 1)) [.t 0,.t 6])]))] [.ay 9,ad [0],.ay 0,.ay 6,ad [1,0,0],ad [1,0],ad [1],ad [],ad []]) (I (aR ajE [112,121,122] [6] 123 [] [(6,fV 1 (.t 6))] [.ay 6,ad [],ad []]) (I (bx O7 Ns) (I (bl adA [108,123,124,125,126] [127] Fp 128 [] [(127,eS .lss (.t 6) (.op (.dD .p (.t 0)) [.t 0]))] [.ay 6,.ay 0,ad [1],ad [],ad []]) (I (aS aoc [] Fp) (I (aS ab8 [] Fp) (I (aS YH [128,129] Fp) (I (aS ajA [130] Fp) (I (dB aj7 [108,123,124,125,126,127,128,129,130,131,132,133,134,135,136,137,138] [10] 139 [] [(10,.pick (.t 127) (.pick (.t 131) (.c (.s (.bool true))) (hj 46 (.op (.h6 (.t 0) (.t 1)) [.t 0,.t 6]))) (.c (.s (.bool false))))] [.sub 0 [1,0] [127],.sub 0 [1,2,0,0] [127,132],.sub 0 [1,2,0,1] [127,132],.sub 0 [1,2,0] [127,132],.sub 0 [1,2] [127,132],.sub 0 [1] [127],ad [],ad []]) (I (aR agr [7,10,139,140,141,142,143,144,145,146,147,148,149,150,151,152,153,154] [155] 156 [] [(155,.pick (.pick (jK .gtr 9 (eS .sub (.t 6) (.t 8))) hH (.pick (jK .gtr 1 (eS .sub (.t 6) (.t 8))) (hj 48 (.t 7)) ht)) hH (.t 10))] [.ay 6,.ay 8,ad [0,0,0],ad [0,0],ad [0,0],.sub 0 [0,2,0,0,0] [143],.sub 0 [0,2,0,0,1] [143],.sub 0 [0,2,0,0] [143],.sub 0 [0,2,0] [143],.sub 0 [0,2,0] [143],.sub 0 [0,2,1,0] [143,148],.sub 0 [0,2,1] [143,148],.sub 0 [0,2] [143],ad [0],ad [0],.sub 0 [2] [153],ad []]) (I (bl WY [0,5,6,8,9,155] [156,157] Io 158 [] [(156,.t 0),(157,.t 8)] [.ay 0,.ay 8]) (I (aS amt [156,157] Io) (I (bl ZA [] [2] Io 3 [] [(2,.c (.s (.slice none 0 0)))] [.cI (.s (.slice none 0 0))]) (I (aS ajk [158] Io) (I (dB afH [0,5,6,8,9,155,156,157,158] [4] 5 [] [(4,jz 31)] [.cI (.s (.int .i64 31))]) (I (bl UP [5,8,9,155,160,161,162] [159,163,164,165,166] H0 167 [] [(159,.t 5),(163,.op (.mT (.t 0) (some (.t 1)) (some (.t 2))) [.t 0,.t 8,.t 6]),(164,.t 9),(165,.t 0),(166,.t 8)] [.ay 5,.ay 0,.ay 8,.ay 6,.sub 1 [] [],.ay 9,.ay 0,.ay 8]) (I (aS Ua [165,166] H0) (I (bl ag0 [163,164,167] [168] H0 169 [] [(168,.op (.build [.s (.int .u8 0),.s (.string ⟨#[]⟩),.s (.int .i64 0),.s (.int .i64 0),.s (.int .i64 0)] [(0,1),(1,1),(2,1),(3,2)] [(0,.c (.s (.int .u8 2))),(1,.t 1),(2,.t 2),(3,.t 3)]) [.c (.s (.int .u8 2)),.t 163,.t 164,.t 167])] [ad []]) (I (aS WV [168] H0) (I (aS alI [159,169] H0) (I (dB Xx [8,9,155,159,160,161,162,163,164,165,166,167,168,169,170] [5] 6 [] [(5,.t 170)] [.ay 170]) (I (bl Zu [7,96] [172] [7,96,172,173] 173 [] [(172,.t 7)] [.ay 7]) (I (aS Zf [172] [7,96,172,173]) (I (dB alE [7,96,172,173] [171] 172 [] [(171,.t 173)] [.ay 173]) (I (aR aiL [171,174,175] [6] 176 [] [(6,fV 1 (.t 6))] [.ay 6,ad [],ad []]) (I (bl abc [5,8,177,178,179] [176,180,181,182] G2 183 [] [(176,.t 5),(180,.op (.mT (.t 0) (some (.t 1)) (some (.t 2))) [.t 0,.t 8,.t 6]),(181,.t 0),(182,.t 8)] [.ay 5,.ay 0,.ay 8,.ay 6,.sub 1 [] [],.ay 0,.ay 8]) (I (aS XX [181,182] G2) (I (bl VG [180,183] [184] G2 185 [] [(184,.op (.build [.s (.int .u8 0),.s (.string ⟨#[]⟩),.s (.int .i64 0),.s (.int .i64 0),.s (.int .i64 0)] [(0,1),(1,1),(2,1),(3,2)] [(0,.c (.s (.int .u8 3))),(1,.t 1),(3,.t 2)]) [.c (.s (.int .u8 3)),.t 180,.t 183])] [ad []]) (I (aS amF [184] G2) (I (aS ail [176,185] G2) (I (dB Wf [8,176,177,178,179,180,181,182,183,184,185,186] [5] 6 [] [(5,.t 186)] [.ay 186]) (I (bl ana [0,5,6,8,171] [23,24] Jt 25 [] [(23,.t 0),(24,.t 8)] [.ay 0,.ay 8]) (I (aS aih [23,24] Jt) (I (bl afC [] [2] Jt 3 [] [(2,.c (.s (.slice none 0 0)))] [.cI (.s (.slice none 0 0))]) (I (aS ag4 [25] Jt) (I (dB aj5 [0,5,6,8,23,24,25,171] [4] 5 [] [(4,jz 30)] [.cI (.s (.int .i64 30))]) (I (bx p7 Q2) (I (bl ajw [0,5,6,18,189] [187,188,190] Fv 191 [] [(187,.t 5),(188,.t 0),(190,.op (.dD .p (.t 0)) [.t 0])] [.ay 5,.ay 0,.ay 0,.sub 2 [] []]) (I (aS acV [188,190] Fv) (I (bl adi [191] [192] Fv 193 [] [(192,.op (.build [.s (.int .u8 0),.s (.string ⟨#[]⟩),.s (.int .i64 0),.s (.int .i64 0),.s (.int .i64 0)] [(0,1),(1,1),(2,1),(3,2)] [(0,.c (.s (.int .u8 4))),(3,.t 1)]) [.c (.s (.int .u8 4)),.t 191])] [ad []]) (I (aS ahg [192] Fv) (I (aS ach [187,193] Fv) (I (dB XT [0,6,18,187,188,189,190,191,192,193,194] [5] 6 [] [(5,.t 194)] [.ay 194]) (I (bl adG [5,195] [196,2] [5,195,196] 197 [] [(196,.op (.build [.s (.int .i64 0),.s (.int .i64 0)] [(0,1),(1,1)] []) []),(2,.t 5)] [.ay 5,ad [],.ay 5]) (I (aS ahb [196] [5,195,196]) (I (dB afM [5,195,196] [4] 5 [] [(4,jz 0)] [.cI (.s (.int .i64 0))]) (I Ns.eq_1 (I RL.eq_1 (I Q2.eq_1 (S5.eq_1)))))))))))))))))))))))))))))))))))))))))))))))))))))))))))))))))))))))))))))))))))))))))))))))))))))))))))))
def aCW:=I (aR Yc Ih [] 3 [] [] [.cI (.s (.bool false))]) (I ayx (I (bE Ih 0) ((aR aam [0,3,4,5,6,7,8,9,10,11,12,13,14,15,16,17,18,19,20] [2] 21 [] [(2,.pick (.pick (.pick (lF .geq 97 (.t 0)) (lF .leq 122 (.t 0)) ht) hH (.pick (lF .geq 65 (.t 0)) (lF .leq 90 (.t 0)) ht)) hH (hj 95 (.t 0)))] [.ay 0,ad [0,0,0],ad [0,0,0],.sub 0 [0,0,1,0] [5],.sub 0 [0,0,1] [5],ad [0,0],ad [0,0],.sub 0 [0,2,0,0] [9],.sub 0 [0,2,0] [9],.sub 0 [0,2,0] [9],.sub 0 [0,2,1,0] [9,12],.sub 0 [0,2,1] [9,12],.sub 0 [0,2] [9],ad [0],ad [0],.sub 0 [2,0] [17],.sub 0 [2] [17],ad [],ad []]))))
def axy:=I (aR V1 Ju [] 3 [] [] [.cI (.s (.bool false))]) (I aEB (I (bE Ju 0) ((aR aj4 [0,3,4,5,6,7,8] [2] 9 [] [(2,.pick (lF .geq 48 (.t 0)) (lF .leq 57 (.t 0)) ht)] [.ay 0,ad [0],ad [0],.sub 0 [1,0] [5],.sub 0 [1] [5],ad [],ad []]))))
def K5:=I (cx abL GS) (I (bE GS 0) (I (bE GS 1) (I (bE GS 4) (I (aR UZ [] [5,6] 7 [] [(5,jz 1),(6,jz 1)] [.cI (.s (.int .i64 1)),.cI (.s (.int .i64 1))]) (I (aR abA [] [7] 8 [] [(7,jz 0)] [.cI (.s (.int .i64 0))]) (I (aR ahK [8,9] [10] 11 [] [(10,eS .lss (.t 7) (.t 1))] [.ay 7,.ay 1,ad []]) (I (aR aeO [10,13,14] [6] 15 [] [(6,fV 1 (.t 6))] [.ay 6,ad [],ad []]) (I (aR akn [15,16,17] [18] 19 [] [(18,hj 10 (.op (.h6 (.t 0) (.t 1)) [.t 0,.t 7]))] [.ay 0,.ay 7,ad [0],ad []]) (I (aR ajr [6,18,19,20] [5] 21 [] [(5,fV 1 (.t 5))] [.ay 5,ad [],ad []]) (I (aR adr [] [6] 7 [] [(6,jz 1)] [.cI (.s (.int .i64 1))]) (I (aR Zd [11,12,18] [7] 13 [] [(7,fV 1 (.t 7))] [.ay 7,ad [],ad []]) (I (bx QL Np) (I (bl aeM [0,1,5,6,7,10,21,22] [23] [0,1,5,6,7,10,21,22,23] 24 [] [(23,.op (.build [.s (.int .i64 0),.s (.int .i64 0)] [(0,1),(1,1)] [(0,.t 0),(1,.t 1)]) [.t 5,.t 6])] [.ay 5,.ay 6,ad []]) (I (cx ahd [0,1,5,6,7,10,21,22,23]) (Np.eq_1)))))))))))))))
def Jh:=I (aR af8 I5 [] 3 [] [] [.cI (.s (.bool false))]) (I aoV (I (bE I5 0) (I (aR ade [] [3] 4 [] [(3,.c (.s (.string ⟨#[61,44,58,40,41,123,125,91,93]⟩)))] [.cI (.s (.string ⟨#[61,44,58,40,41,123,125,91,93]⟩))]) (I (aR amM [] [4] 5 [] [(4,jz 0)] [.cI (.s (.int .i64 0))]) (I (aR UX [5,6,7] [8] 9 [] [(8,eS .lss (.t 4) (.op (.dD .p (.t 0)) [.t 3]))] [.ay 4,.ay 3,ad [1],ad []]) (I (aR Z0 [8,11,12,13,14] [15] 16 [] [(15,eS .eql (.op (.h6 (.t 0) (.t 1)) [.t 3,.t 4]) (.t 0))] [.ay 3,.ay 4,ad [0],.ay 0,ad []]) (I (aR ajQ [0,3,4,15] [2] 3 [] [(2,hH)] [.cI (.s (.bool true))]) (I (aR ajy [9,10,15] [4] 11 [] [(4,fV 1 (.t 4))] [.ay 4,ad [],ad []]) (I (bx Q4 QK) (I (aR aab [0,3,4,8] [2] 3 [] [(2,ht)] [.cI (.s (.bool false))]) (QK.eq_1)))))))))))
theorem aCN:fN Tryd.prog fm 19=some (false,rn.ntmps,rn.results,rn.body.bare):=by kernel_rfl
theorem aEl:fN Tryd.prog fm 40=some (false,xA.ntmps,xA.results,xA.body.bare):=by kernel_rfl
theorem aHW:fN Tryd.prog fm 41=some (false,xI.ntmps,xI.results,xI.body.bare):=by kernel_rfl
theorem avw:fN Tryd.prog fm 42=some (false,vz.ntmps,vz.results,vz.body.bare):=by kernel_rfl
theorem atE:fN Tryd.prog fm 43=some (false,xM.ntmps,xM.results,xM.body.bare):=by kernel_rfl
section
variable {ah:Nat->Option c7}
def Cs(aR:ah JD=some (.code xA))(c base H):aU ah (.fn JD [] []) [.s (.int .u8 c.toNat)] base H=some (aL (Tok.letter c),H):=by
 refine ih (c:=xA) aR (by simp[xA]) ?_
 rw[<- U7];simp only[xA,simprocAttr,aCW,aM]
def Bx(aR:ah Hg=some (.code xI))(c base H):aU ah (.fn Hg [] []) [.s (.int .u8 c.toNat)] base H=some (aL (Tok.digit c),H):=by
 refine ih (c:=xI) aR (by simp[xI]) ?_
 rw[<- Z3];simp only[xI,simprocAttr,axy,aM]
def tg:ByteArray:=⟨#[61,44,58,40,41,123,125,91,93]⟩
theorem aBT(call:c5)(base c H):∀(l:List UInt8) (j:Nat),tg.data.toList.drop j=l->j<=9->
 aG (aC call aG base Q4) [] H.length (au 16 [(0,.s (.int .u8 c.toNat)),(3,.s (.string tg)),(4,bd j)]) H=
 bif l.contains c then some (.ret,au 16 [(2,aL true)],H)else some (.ext 0,au 16 [(0,.s (.int .u8 c.toNat)),(3,.s (.string tg)),(4,bd ((9:Nat):Int)),(8,aL false)],H):=by
 intro l
 induction l with
 |nil=>
   intro j aQ br
   have oR:j=9:=by
    have:=dX List.length aQ;rw[fJ,show tg.data.toList.length=9 from rfl]at this;simp at this;omega
   subst oR;rw[eo];simp only[Jh,simprocAttr,aM,bd,show tg.size=9 from rfl,nq]
 |cons x l aw=>
   intro j aQ br
   have ae:tg.data.toList[j]?=some x:=by have:=dX (·[0]?) aQ;simp only[h4]at this;exact this
   have bt:j<9:=(cC.1 ae).1
   have fz:tg.data.toList.drop (j+1)=l:=by
    have:=dX (List.drop 1) aQ
    simpa[nL]using this
   have w:=ie (n:=j) (by omega)
   have eD:((j:Int)<((tg.size:Nat):Int)):=by rw[show tg.size=9 from rfl];omega
   have kP:=aw (j+1) fz (by omega)
   have e:((x.toNat:Int)==(c.toNat:Int))=(c==x):=by rw[fc,cG,cG,fQ];exact eq_comm
   rw[eo,EJ];cases rf:c==x with
   |true=>
     simp only[Jh,simprocAttr,aM,bd,eD,ae,e,rf]
   |false=>
     simp only[Jh,simprocAttr,aM,bd,eD,ae,e,rf,w];simp only[bd]at kP;rw[kP];rfl
def aIg(call:c5)(base b)(af:b.size<=2^40)(d q)(bD:q<=b.size)(H):∀(n p:Nat) (a6 aZ:Nat),p+n=q->a6<=p+1->aZ<=p+1->
 aG (aC call aG base QL) [] H.length (au 24 [(0,.s (.string b)),(1,bd q),(4,.ref d 0 0),(5,bd a6),(6,bd aZ),(7,bd p)]) H=
 some (.ext 0,au 24 [(0,.s (.string b)),(1,bd q),(4,.ref d 0 0),(5,bd (Tok.e2 ((b.data.toList.drop p).take n) (a6,aZ)).1),(6,bd (Tok.e2 ((b.data.toList.drop p).take n) (a6,aZ)).2),(7,bd q),(10,aL false)],H):=by
 intro n
 induction n with
 |zero=>
   intro p a6 aZ aj ak aa;rw[oL]at aj;subst aj;rw[eo];simp only[K5,simprocAttr,aM,bd,nq,Tok.e2]
 |succ n aw=>
   intro p a6 aZ aj ak aa
   have bt:p<b.data.toList.length:=by show p<b.size;omega
   have ae:b.data.toList[p]?=some b.data.toList[p]:=dy bt;have aQ:b.data.toList.drop p=b.data.toList[p]::b.data.toList.drop (p+1):=hN bt
   have br:((p:Int)<(q:Int)):=by omega
   have aV:=ie (n:=aZ) (by omega)
   have b4:=ie (n:=a6) (by omega)
   have dJ:=ie (n:=p) (by omega)
   rw[aQ,fI,Tok.e2];rw[eo];by_cases gm:b.data.toList[p]=10
   .rw[a' gm]
    have uB:=aw (p+1) (a6+1) 1 (by omega) (by omega) (by omega)
    simp only[K5,simprocAttr,aM,bd,br,ae,aV,b4,dJ,u4,gm];simp only[bd]at uB;exact uB
   .rw[bm gm]
    have uB:=aw (p+1) a6 (aZ+1) (by omega) (by omega) (by omega)
    simp only[K5,simprocAttr,aM,bd,br,ae,aV,b4,dJ,u4,gm];simp only[bd]at uB;exact uB
def Cr(aR:ah P8=some (.code xM))(c base H):aU ah (.fn P8 [] []) [.s (.int .u8 c.toNat)] base H=some (aL (Tok.sign c),H):=by
 refine ih (c:=xM) aR (by simp[xM]) ?_
 have ak:=aBT (aU ah) base c H tg.data.toList 0 rfl (by omega)
 rw[bd,bd,show((0:Nat):Int)=0 from rfl]at ak
 have e:tg.data.toList.contains c=Tok.sign c:=by
  show[61,44,58,40,41,123,125,91,93].contains c=_;unfold Tok.sign;simp only[EJ,Kt,uE,SY]
 rw[e]at ak;unfold tg at ak;simp only[xM,simprocAttr,Jh,aM,ak];cases Tok.sign c<;>simp only[aM]
def An(aR:ah Qu=some (.code vz))(base:Nat)(H:az)(xj:base<=H.length){b}(af:b.size<=2^40){q:Nat}(bD:q<=b.size):
 aU ah (.fn Qu [] []) [.s (.string b),.s (.int .i64 q)] base H=some (.agg [.s (.int .i64 (Tok.e2 (b.data.toList.take q) (1,1)).1),.s (.int .i64 (Tok.e2 (b.data.toList.take q) (1,1)).2)],H++[.cells 0 [.s (.int .i64 (Tok.e2 (b.data.toList.take q) (1,1)).1),.s (.int .i64 (Tok.e2 (b.data.toList.take q) (1,1)).2)]]):=by
 refine iY (c:=vz) (k:=2) aR rfl (by decide) aGS ?_
 have ak:=aIg (aU ah) base b af H.length q bD (H++[.cells 0 [.s (.int .i64 0),.s (.int .i64 0)]]) q 0 1 1 (by omega) (by omega) (by omega)
 rw[bd,bd,bd,bd,show((0:Nat):Int)=0 from rfl,show((1:Nat):Int)=1 from rfl,l3]at ak;simp only[fU,bi]at ak;simp only[vz,simprocAttr,K5,aM,ak,xj,yp]
end
def w3:Nat->Nat->List UInt8->Nat
 |_,n,[]=>n
 |j,n,c::l=>if Tok.digit c then w3 (j+1) (if j<9 then 10*n+(c.toNat-48)else n) l else n
theorem ZJ:∀(l:List UInt8) (j n:Nat),j+Tok.ba Tok.digit l<=9->w3 j n l=(l.take (Tok.ba Tok.digit l)).foldl (fun n c=>n*10+(c.toNat-48)) n
 | [],j,n,_=>rfl
 |c::l,j,n,h=>by
   unfold w3;unfold Tok.ba at h |-;cases aa:Tok.digit c with
   |true=>
     simp only[aa,fl]at h |-
     rw[a' (by omega),ZJ l (j+1) _ (by omega),fI,Gz,Nat.mul_comm 10]
   |false=>rfl
section
variable {ah:Nat->Option c7}
def aDS(base){b}(af:b.size<=2^40){d v H}:∀(l:List UInt8) (p:Nat),b.data.toList.drop p=l->p<=b.size->
 aG (aC (aU ah) aG base Ov) [7,8,43] H.length (au 197 [(0,.s (.string b)),(3,.ref d 0 0),(5,v),(6,bd p)]) H=some (.ext 3,au 197 [(0,.s (.string b)),(3,.ref d 0 0),(5,v),(6,bd ((p+Tok.ba Tok.other l:Nat):Int)),(55,aL false)],H):=by
 intro l
 induction l with
 |nil=>
   intro p aQ aj
   have h9:p=b.size:=by
    have:=dX List.length aQ;rw[fJ,show b.data.toList.length=b.size from rfl]at this;simp at this;omega
   subst h9;rw[eo];simp only[jD,simprocAttr,aM,bd,nq,Tok.ba]
 |cons c l aw=>
   intro p aQ aj
   have ae:b.data.toList[p]?=some c:=by have:=dX (·[0]?) aQ;simp only[h4]at this;exact this
   have bt:p<b.size:=(cC.1 ae).1
   have fz:b.data.toList.drop (p+1)=l:=by
    have:=dX (List.drop 1) aQ
    simpa[nL]using this
   have eD:((p:Int)<(b.size:Int)):=by omega
   have w:=ie (n:=p) (by omega)
   have kP:=aw (p+1) fz (by omega)
   rw[eo];cases aT:Tok.other c with
   |true=>
     simp only[jD,simprocAttr,aM,bd,eD,ae,w,NN,aT,Tok.ba]
     rw[show p+(Tok.ba Tok.other l+1)=p+1+Tok.ba Tok.other l by omega]
     exact kP
   |false=>
     simp only[jD,simprocAttr,aM,bd,eD,ae,NN,aT,Tok.ba]
def axZ(dw:∀(c:UInt8) (base:Nat) (H:az),aU ah (.fn JD [] []) [.s (.int .u8 c.toNat)] base H=some (aL (Tok.letter c),H))(cX:∀(c:UInt8) (base:Nat) (H:az),aU ah (.fn Hg [] []) [.s (.int .u8 c.toNat)] base H=some (aL (Tok.digit c),H))(base){b}(af:b.size<=2^40){d v Fy H}:∀(l:List UInt8) (p:Nat),b.data.toList.drop p=l->p<=b.size->
 aG (aC (aU ah) aG base OV) [7,58] H.length (au 197 [(0,.s (.string b)),(3,.ref d 0 0),(5,v),(6,bd p),(8,Fy)]) H=some (.ext 5,au 197 [(0,.s (.string b)),(3,.ref d 0 0),(5,v),(6,bd ((p+Tok.ba Tok.within l:Nat):Int)),(8,Fy),(82,aL false)],H):=by
 intro l
 induction l with
 |nil=>
   intro p aQ aj
   have h9:p=b.size:=by
    have:=dX List.length aQ;rw[fJ,show b.data.toList.length=b.size from rfl]at this;simp at this;omega
   subst h9;rw[eo];simp only[jD,simprocAttr,aM,bd,nq,Tok.ba]
 |cons c l aw=>
   intro p aQ aj
   have ae:b.data.toList[p]?=some c:=by have:=dX (·[0]?) aQ;simp only[h4]at this;exact this
   have bt:p<b.size:=(cC.1 ae).1
   have fz:b.data.toList.drop (p+1)=l:=by
    have:=dX (List.drop 1) aQ
    simpa[nL]using this
   have eD:((p:Int)<(b.size:Int)):=by omega
   have w:=ie (n:=p) (by omega)
   have kP:=aw (p+1) fz (by omega)
   rw[eo];cases aT:Tok.within c with
   |true=>
     cases ak:Tok.letter c with
     |true=>
       simp only[jD,simprocAttr,aM,bd,eD,ae,w,dw,ak,CF,aT,Tok.ba]
       rw[show p+(Tok.ba Tok.within l+1)=p+1+Tok.ba Tok.within l by omega]
       exact kP
     |false=>
       have DB:(Tok.digit c||c==46)=true:=by unfold Tok.within at aT;rw[ak]at aT;simpa using aT
       simp only[jD,simprocAttr,aM,bd,eD,ae,w,dw,cX,ak,CF,aT,DB,Tok.ba]
       rw[show p+(Tok.ba Tok.within l+1)=p+1+Tok.ba Tok.within l by omega]
       exact kP
   |false=>
     have ak:Tok.letter c=false:=by unfold Tok.within at aT;simp only[rq]at aT;exact aT.1.1
     have aQ:Tok.digit c=false:=by unfold Tok.within at aT;simp only[rq]at aT;exact aT.1.2
     have avE:(c==46)=false:=by unfold Tok.within at aT;simp only[rq]at aT;exact aT.2
     simp only[jD,simprocAttr,aM,bd,eD,ae,dw,cX,ak,aQ,avE,CF,aT,Tok.ba]
def amK(cX:∀(c:UInt8) (base:Nat) (H:az),aU ah (.fn Hg [] []) [.s (.int .u8 c.toNat)] base H=some (aL (Tok.digit c),H))(base){b}(af:b.size<=2^40){d v w7 from' H}:∀(l:List UInt8) (j n:Nat),b.data.toList.drop (from'+j)=l->from'+j<=b.size->n<10^(min j 9)->
 aG (aC (aU ah) aG base O7) [] H.length (au 197 [(0,.s (.string b)),(3,.ref d 0 0),(5,v),(6,bd ((from'+j:Nat):Int)),(7,w7),(8,bd from'),(9,bd n)]) H=some (.ext 7,au 197 [(0,.s (.string b)),(3,.ref d 0 0),(5,v),(6,bd ((from'+(j+Tok.ba Tok.digit l):Nat):Int)),(7,w7),(8,bd from'),(9,bd (w3 j n l)),(108,aL false)],H):=by
 intro l
 induction l with
 |nil=>
   intro j n aQ aj aN
   have h9:from'+j=b.size:=by
    have:=dX List.length aQ;rw[fJ,show b.data.toList.length=b.size from rfl]at this;simp at this;omega
   rw[eo];simp only[jD,simprocAttr,aM,bd,h9,nq,Tok.ba,w3]
 |cons c l aw=>
   intro j n aQ aj aN
   have ae:b.data.toList[from'+j]?=some c:=by have:=dX (·[0]?) aQ;simp only[h4]at this;exact this
   have bt:from'+j<b.size:=(cC.1 ae).1
   have fz:b.data.toList.drop (from'+(j+1))=l:=by
    have:=dX (List.drop 1) aQ
    simpa[nL,tF]using this
   have eD:(((from'+j:Nat):Int)<(b.size:Int)):=by omega
   have w:=ie (n:=from'+j) (by omega)
   have b4:IntKind.i64.wrap (((from'+j:Nat):Int)-(from':Int))=(j:Int):=by rw[IntKind.wrap_i64];omega
   have q:decide ((j:Int)<9)=decide (j<9):=by rw[fc,iA,iA];omega
   rw[eo];cases aT:Tok.digit c with
   |true=>
     have qu:48<=c.toNat/\c.toNat<=57:=by unfold Tok.digit at aT;simpa using aT
     have dJ:IntKind.u8.wrap ((c.toNat:Int)-48)=((c.toNat-48:Nat):Int):=by unfold IntKind.wrap;simp[IntKind.bits,IntKind.signed];omega
     by_cases br:j<9
     .have aI5:n<10^j:=by rwa[EK (by omega)]at aN
      have hI:10^(j+1)<=10^9:=Nat.pow_le_pow_right (by decide) (by omega)
      have kW:10*n+(c.toNat-48)<10^(j+1):=by rw[Nat.pow_succ];omega
      have kP:=aw (j+1) (10*n+(c.toNat-48)) fz (by omega) (by rw[EK (by omega)];exact kW)
      have eO:IntKind.i64.wrap (10*(n:Int))=((10*n:Nat):Int):=by rw[IntKind.wrap_i64];omega
      have oK:IntKind.i64.wrap ((c.toNat-48:Nat):Int)=((c.toNat-48:Nat):Int):=by rw[IntKind.wrap_i64];omega
      have hY:IntKind.i64.wrap (((10*n:Nat):Int)+((c.toNat-48:Nat):Int))=((10*n+(c.toNat-48):Nat):Int):=by rw[IntKind.wrap_i64];omega
      simp only[jD,simprocAttr,aM,bd,eD,ae,w,b4,dJ,eO,oK,hY,q,br,cX,aT,Tok.ba,w3]
      rw[show j+(Tok.ba Tok.digit l+1)=j+1+Tok.ba Tok.digit l by omega]
      exact kP
     .have kP:=aw (j+1) n fz (by omega) (by rw[J0 (by omega)]at aN |-;exact aN)
      simp only[jD,simprocAttr,aM,bd,eD,ae,w,b4,dJ,q,br,cX,aT,Tok.ba,w3]
      rw[show j+(Tok.ba Tok.digit l+1)=j+1+Tok.ba Tok.digit l by omega]
      exact kP
   |false=>
     simp only[jD,simprocAttr,aM,bd,eD,ae,cX,aT,Tok.ba,w3]
end
structure uI (ah:Nat->Option c7):Prop where
 letter:ah JD=some (.code xA)
 digit:ah Hg=some (.code xI)
 sign:ah P8=some (.code xM)
 spot:ah Qu=some (.code vz)
structure lI (m:Nat) (H:az) (d:Nat) (v:V) (R:List (List V)):Prop where
 res:∃x y,ao H d 0=some [x,y]
 out:cp m 5 H v R
 len:m<=H.length
 lt:d<m
def ho(b:ByteArray)(d:Nat)(v:V)(p:Nat):Env:=[(0,.s (.string b)),(3,.ref d 0 0),(5,v),(6,bd p)]
def cp.cj{m w H v R}(h:cp m w H v R){fr}(av:v∈fr):cp m w (Go.dO.trim m fr H) v R:=by
 rcases cp.rW h (bS _) av with⟨rfl,rfl⟩|e
 .exact cp.start _ _ _
 .rw[e];exact h
def lI.cj{m H d v R}(h:lI m H d v R){fr}(av:v∈fr):lI m (Go.dO.trim m fr H) d v R:=by
 obtain⟨x,y,aQ⟩:=h.res;exact⟨⟨x,y,Gm aQ h.lt⟩,cp.cj h.out av,J4 h.len,h.lt⟩
def lI.app{m base H d v R}(h:lI m H d v R)(gZ:base<=m)(bo){row}(FM:row.length=5)(C':row.all V.one=true)(b8:R.length<=2^40):
 ∃dQ C,gW (H++[bo]++[bq.cells 0 row]) base 5 48 v (.aB (H.length+1) 0 0 1 5)=some (dQ,C)/\lI m C d dQ (R++[row])/\aA m [] H C:=by
 have o6:=h.len;obtain⟨A,ib⟩:∃A,H++[bo]=A:=⟨_,rfl⟩
 have amb:A.length=H.length+1:=by rw[<- ib];simp
 have ayW:∀id,id<H.length->A[id]?=H[id]?:=fun id J=>by rw[<- ib,d' J]
 rw[ib,<- amb];obtain⟨B,aI⟩:∃B,A++[bq.cells 0 row]=B:=⟨_,rfl⟩
 have EC:∀id,id<H.length->B[id]?=H[id]?:=fun id J=>by rw[<- aI,d' (by omega),ayW id J]
 have arW:B.length=H.length+2:=by rw[<- aI];simp[amb]
 have ae:elems B 5 (.aB A.length 0 0 1 5)=some ([row].length,[row].flatten):=by
  rw[<- aI];exact(RdW.aB (R:=[row]) (by simpa using dz A 0 row) (by intro r ar;simp at ar;subst ar;exact FM)).el
 have OS:cp m 5 B v R:=h.out.bT fun id g n e=>EC id (h.out.lt id g n e)
 obtain⟨dQ,C,uQ,PX,J3,tE⟩:=OS.append (base:=base) (bytes:=48) (S:=[row]) gZ (by omega) (by intro r ar;simp at ar;subst ar;exact FM) (by simp) ae (by simpa using C') (by simp;omega)
 rw[aI]
 have an4:∀x,x<m->C[x]?=H[x]?:=fun x ae=>by
  rw[tE x (by omega) (fun g n e=>?_),EC x (by omega)]
  obtain⟨_,⟨_,rfl⟩|⟨eX,g',rfl,_,IC⟩⟩:=h.out
  .cases e
  .cases e;omega
 refine⟨dQ,C,uQ,⟨?_,PX,by omega,h.lt⟩,by omega,fun x ae _=>an4 x ae⟩
 obtain⟨x,y,aQ⟩:=h.res
 exact⟨x,y,by unfold ao at aQ |-;rw[an4 d h.lt];exact aQ⟩
def aac{l:List UInt8}{p:Nat}{c x:UInt8}(fi:l.drop p=c::l.drop (p+1))(ae:l[p+(Tok.ba Tok.digit (l.drop (p+1))+1)]?=some x):(Tok.letter x||x==46)=decide (Tok.ba Tok.digit (l.drop (p+1))<Tok.ba Tok.within (l.drop (p+1))):=by
 have ff:(l.drop (p+1)).drop (Tok.ba Tok.digit (l.drop (p+1)))=x::(l.drop (p+1)).drop (Tok.ba Tok.digit (l.drop (p+1))+1):=by
  have ax:(l.drop (p+1))[Tok.ba Tok.digit (l.drop (p+1))]?=some x:=by rw[h4,show p+1+Tok.ba Tok.digit (l.drop (p+1))=p+(Tok.ba Tok.digit (l.drop (p+1))+1) by omega];exact ae
  obtain⟨aY,cl⟩:=cC.1 ax;rw[hN aY,cl]
 have ki:=Tok.Kh Tok.digit _ ff
 have f':∀y∈(l.drop (p+1)).take (Tok.ba Tok.digit (l.drop (p+1))),Tok.within y=true:=fun y bA=>by
  unfold Tok.within;rw[Tok.GP _ _ y bA];cases Tok.letter y<;>rfl
 have e:=Tok.Re Tok.within _ (x::(l.drop (p+1)).drop (Tok.ba Tok.digit (l.drop (p+1))+1)) f';rw[<- ff,vO,Tok.qn,ff]at e;rw[e,fc,iA];unfold Tok.ba
 have hw:Tok.within x=(Tok.letter x||x==46):=by
  unfold Tok.within;rw[ki,uE]
 rw[hw]
 cases(Tok.letter x||x==46)<;>simp
section
variable {ah:Nat->Option c7}
def au1(T:uI ah){base m:Nat}{b}(af:b.size<=2^40){d:Nat}(jl:base<=d)(gZ:base<=m){H v}{a6 aZ p:Nat}{R}(st:lI m H d v R)(b8:R.length<=p){c:UInt8}(ae:b.data.toList[p]?=some c)(fO:Tok.e2 (b.data.toList.take p) (1,1)=(a6,aZ))(ds:Tok.blank c=true):
 ∃H',aG (aC (aU ah) aG base p7) [55] m (au 197 (ho b d v p)) H=aG (aC (aU ah) aG base p7) [55] m (au 197 (ho b d v (p+1))) H'/\lI m H' d v R/\aA m [] H H':=by
 have bt:p<b.size:=(cC.1 ae).1
 have eD:((p:Int)<(b.size:Int)):=by omega
 have fi:b.data.toList.drop p=c::b.data.toList.drop (p+1):=by
  rw[hN bt,(cC.1 ae).2]
 have dw:=Cs T.letter;have cX:=Bx T.digit;have e5:=Cr T.sign c;have o6:=st.len
 have kL:=fun(H:az) (bu:base<=H.length)=>An T.spot base H bu af (q:=p) (by omega)
 simp only[fO]at kL
 have w:=ie (n:=p) (by omega)
 have D0:=u4 c
 have nU:((c.toNat:Int)==32)=(c==32):=by rw[fc,cG,cG,fQ];rfl
 have l6:((c.toNat:Int)==9)=(c==9):=by rw[fc,cG,cG,fQ];rfl
 have o4:((c.toNat:Int)==13)=(c==13):=by rw[fc,cG,cG,fQ];rfl
 have ny:((c.toNat:Int)==10)=(c==10):=by rw[fc,cG,cG,fQ];rfl
 refine⟨_,?_,st.cj (fr:=au 197 (ho b d v (p+1))) (tO (s:=5) (by decide) rfl),aA.cj (A:=H) ⟨o6,fun _ _ _=>rfl⟩ _⟩
 have fv:=ds;unfold Tok.blank at fv;rw[eo];cases n32:c==32 with
 |true=>simp only[ho,simprocAttr,bd,jD,aM,eD,ae,w,nU,n32]
 |false=>
   cases nV:c==9 with
   |true=>simp only[ho,simprocAttr,bd,jD,aM,eD,ae,w,nU,n32,l6,nV]
   |false=>
     cases oj:c==13 with
     |true=>simp only[ho,simprocAttr,bd,jD,aM,eD,ae,w,nU,n32,l6,nV,o4,oj]
     |false=>
       have n10:(c==10)=true:=by simpa only[n32,nV,oj,o5]using fv
       simp only[ho,simprocAttr,bd,jD,aM,eD,ae,w,nU,n32,l6,nV,o4,oj,ny,n10]
def aws(T:uI ah){base m:Nat}{b}(af:b.size<=2^40){d:Nat}(jl:base<=d)(gZ:base<=m){H v}{a6 aZ p:Nat}{R}(st:lI m H d v R)(b8:R.length<=p){c:UInt8}(ae:b.data.toList[p]?=some c)(fO:Tok.e2 (b.data.toList.take p) (1,1)=(a6,aZ))(ds:Tok.blank c=false)(eR:c=59):
 ∃H',aG (aC (aU ah) aG base p7) [55] m (au 197 (ho b d v p)) H=aG (aC (aU ah) aG base p7) [55] m (au 197 (ho b d v (p+(Tok.ba Tok.other (b.data.toList.drop (p+1))+1)))) H'/\lI m H' d v R/\aA m [] H H':=by
 have bt:p<b.size:=(cC.1 ae).1
 have eD:((p:Int)<(b.size:Int)):=by omega
 have fi:b.data.toList.drop p=c::b.data.toList.drop (p+1):=by
  rw[hN bt,(cC.1 ae).2]
 have dw:=Cs T.letter;have cX:=Bx T.digit;have e5:=Cr T.sign c;have o6:=st.len
 have kL:=fun(H:az) (bu:base<=H.length)=>An T.spot base H bu af (q:=p) (by omega)
 simp only[fO]at kL
 have w:=ie (n:=p) (by omega)
 have D0:=u4 c
 have nU:((c.toNat:Int)==32)=(c==32):=by rw[fc,cG,cG,fQ];rfl
 have l6:((c.toNat:Int)==9)=(c==9):=by rw[fc,cG,cG,fQ];rfl
 have o4:((c.toNat:Int)==13)=(c==13):=by rw[fc,cG,cG,fQ];rfl
 have ny:((c.toNat:Int)==10)=(c==10):=by rw[fc,cG,cG,fQ];rfl
 have ak:=aDS (ah:=ah) base af (d:=d) (v:=v) (H:=H) (b.data.toList.drop p) p rfl (by omega)
 rw[fi,Tok.ba,a' (by rw[eR];decide)]at ak
 refine⟨_,?_,st.cj (fr:=au 197 (ho b d v (p+(Tok.ba Tok.other (b.data.toList.drop (p+1))+1)))) (tO (s:=5) (by decide) rfl),aA.cj (A:=H) ⟨o6,fun _ _ _=>rfl⟩ _⟩
 have jj:((c.toNat:Int)==59)=true:=by rw[eR];rfl
 have fv:=ds;unfold Tok.blank at fv;simp only[rq]at fv;obtain⟨⟨⟨n32,nV⟩,oj⟩,n10⟩:=fv;rw[eo];simp only[bd]at ak;simp only[ho,simprocAttr,bd,jD,aM,eD,ae,w,nU,n32,l6,nV,o4,oj,ny,n10,jj,ak]
def auB(T:uI ah){base m:Nat}{b}(af:b.size<=2^40){d:Nat}(jl:base<=d)(gZ:base<=m){H v}{a6 aZ p:Nat}{R}(st:lI m H d v R)(b8:R.length<=p){c:UInt8}(ae:b.data.toList[p]?=some c)(fO:Tok.e2 (b.data.toList.take p) (1,1)=(a6,aZ))(ds:Tok.blank c=false)(eR:c≠59)(eJ:Tok.letter c=true):
 ∃dQ H',aG (aC (aU ah) aG base p7) [55] m (au 197 (ho b d v p)) H=aG (aC (aU ah) aG base p7) [55] m (au 197 (ho b d dQ (p+(Tok.ba Tok.within (b.data.toList.drop (p+1))+1)))) H'/\lI m H' d dQ (R++[cP ⟨1,c::(b.data.toList.drop (p+1)).take (Tok.ba Tok.within (b.data.toList.drop (p+1))),0,a6,aZ⟩])/\aA m [] H H':=by
 have bt:p<b.size:=(cC.1 ae).1
 have eD:((p:Int)<(b.size:Int)):=by omega
 have fi:b.data.toList.drop p=c::b.data.toList.drop (p+1):=by
  rw[hN bt,(cC.1 ae).2]
 have dw:=Cs T.letter;have cX:=Bx T.digit;have e5:=Cr T.sign c;have o6:=st.len
 have kL:=fun(H:az) (bu:base<=H.length)=>An T.spot base H bu af (q:=p) (by omega)
 simp only[fO]at kL
 have w:=ie (n:=p) (by omega)
 have D0:=u4 c
 have nU:((c.toNat:Int)==32)=(c==32):=by rw[fc,cG,cG,fQ];rfl
 have l6:((c.toNat:Int)==9)=(c==9):=by rw[fc,cG,cG,fQ];rfl
 have o4:((c.toNat:Int)==13)=(c==13):=by rw[fc,cG,cG,fQ];rfl
 have ny:((c.toNat:Int)==10)=(c==10):=by rw[fc,cG,cG,fQ];rfl
 have jj:((c.toNat:Int)==59)=false:=by rw[eZ];intro e;exact eR ((fQ c 59).2 e)
 have fv:=ds;unfold Tok.blank at fv;simp only[rq]at fv;obtain⟨⟨⟨n32,nV⟩,oj⟩,n10⟩:=fv
 have hw:Tok.within c=true:=by unfold Tok.within;rw[eJ];rfl
 have ei:=Tok.sD Tok.within (b.data.toList.drop (p+1));rw[fJ,show b.data.toList.length=b.size from rfl]at ei
 have ak:=fun Fy=>axZ dw cX base af (d:=d) (v:=v) (Fy:=Fy) (H:=H) (b.data.toList.drop p) p rfl (by omega)
 simp only[fi,Tok.ba,a' hw,bd]at ak
 have hI:(0<=(p:Int)/\(p:Int)<=((p+(Tok.ba Tok.within (b.data.toList.drop (p+1))+1):Nat):Int)/\((p+(Tok.ba Tok.within (b.data.toList.drop (p+1))+1):Nat):Int)<=(b.size:Int)):=by omega
 have hex:=extract_eq b p (Tok.ba Tok.within (b.data.toList.drop (p+1))+1);rw[fi,fI]at hex
 obtain⟨dQ,C,uQ,zS,tE⟩:=st.app gZ (bq.cells 0 [V.s (.int .i64 a6),V.s (.int .i64 aZ)]) (row:=cP ⟨1,c::(b.data.toList.drop (p+1)).take (Tok.ba Tok.within (b.data.toList.drop (p+1))),0,a6,aZ⟩) rfl rfl (by omega)
 have Ap:gW (H++[bq.cells 0 [V.s (.int .i64 a6),V.s (.int .i64 aZ)]]++[bq.cells 0 [V.s (.int .u8 1),V.s (.string ⟨(c::(b.data.toList.drop (p+1)).take (Tok.ba Tok.within (b.data.toList.drop (p+1)))).toArray⟩),V.s (.int .i64 0),V.s (.int .i64 a6),V.s (.int .i64 aZ)]]) base 5 48 v (.aB (H.length+1) 0 0 1 5)=some (dQ,C):=uQ
 refine⟨dQ,_,?_,zS.cj (fr:=au 197 (ho b d dQ (p+(Tok.ba Tok.within (b.data.toList.drop (p+1))+1)))) (tO (s:=5) (by decide) rfl),aA.cj tE _⟩
 rw[eo]
 have jH:base<=H.length:=by omega
 simp only[ho,simprocAttr,bd,jD,aM,eD,ae,w,nU,n32,l6,nV,o4,oj,ny,n10,jj,dw,eJ,ak,kL H jH,Gd,hI,hex,Ap]
def aEP(T:uI ah){base m:Nat}{b}(af:b.size<=2^40){d:Nat}(jl:base<=d)(gZ:base<=m){H v}{a6 aZ p:Nat}{R}(st:lI m H d v R)(b8:R.length<=p){c:UInt8}(ae:b.data.toList[p]?=some c)(fO:Tok.e2 (b.data.toList.take p) (1,1)=(a6,aZ))(ds:Tok.blank c=false)(eR:c≠59)(eJ:Tok.letter c=false)(fk:Tok.digit c=false)(nP:Tok.sign c=true):
 ∃dQ H',aG (aC (aU ah) aG base p7) [55] m (au 197 (ho b d v p)) H=aG (aC (aU ah) aG base p7) [55] m (au 197 (ho b d dQ (p+1))) H'/\lI m H' d dQ (R++[cP ⟨3,[c],0,a6,aZ⟩])/\aA m [] H H':=by
 have bt:p<b.size:=(cC.1 ae).1
 have eD:((p:Int)<(b.size:Int)):=by omega
 have fi:b.data.toList.drop p=c::b.data.toList.drop (p+1):=by
  rw[hN bt,(cC.1 ae).2]
 have dw:=Cs T.letter;have cX:=Bx T.digit;have e5:=Cr T.sign c;have o6:=st.len
 have kL:=fun(H:az) (bu:base<=H.length)=>An T.spot base H bu af (q:=p) (by omega)
 simp only[fO]at kL
 have w:=ie (n:=p) (by omega)
 have D0:=u4 c
 have nU:((c.toNat:Int)==32)=(c==32):=by rw[fc,cG,cG,fQ];rfl
 have l6:((c.toNat:Int)==9)=(c==9):=by rw[fc,cG,cG,fQ];rfl
 have o4:((c.toNat:Int)==13)=(c==13):=by rw[fc,cG,cG,fQ];rfl
 have ny:((c.toNat:Int)==10)=(c==10):=by rw[fc,cG,cG,fQ];rfl
 have jj:((c.toNat:Int)==59)=false:=by rw[eZ];intro e;exact eR ((fQ c 59).2 e)
 have fv:=ds;unfold Tok.blank at fv;simp only[rq]at fv;obtain⟨⟨⟨n32,nV⟩,oj⟩,n10⟩:=fv
 have hI:(0<=(p:Int)/\(p:Int)<=((p+1:Nat):Int)/\((p+1:Nat):Int)<=(b.size:Int)):=by omega
 have hex:=extract_eq b p 1;rw[fi,fI,gq]at hex
 obtain⟨dQ,C,uQ,zS,tE⟩:=st.app gZ (bq.cells 0 [V.s (.int .i64 a6),V.s (.int .i64 aZ)]) (row:=cP ⟨3,[c],0,a6,aZ⟩) rfl rfl (by omega)
 have Ap:gW (H++[bq.cells 0 [V.s (.int .i64 a6),V.s (.int .i64 aZ)]]++[bq.cells 0 [V.s (.int .u8 3),V.s (.string ⟨#[c]⟩),V.s (.int .i64 0),V.s (.int .i64 a6),V.s (.int .i64 aZ)]]) base 5 48 v (.aB (H.length+1) 0 0 1 5)=some (dQ,C):=uQ
 refine⟨dQ,_,?_,zS.cj (fr:=au 197 (ho b d dQ (p+1))) (tO (s:=5) (by decide) rfl),aA.cj tE _⟩
 rw[eo]
 have jH:base<=H.length:=by omega
 simp only[ho,simprocAttr,bd,jD,aM,eD,ae,w,nU,n32,l6,nV,o4,oj,ny,n10,jj,dw,eJ,cX,fk,e5,nP,kL H jH,Gd,hI,hex,Ap]
def atV(T:uI ah){base m:Nat}{b}(af:b.size<=2^40){d:Nat}(jl:base<=d)(gZ:base<=m){H v}{a6 aZ p:Nat}{R}(st:lI m H d v R)(b8:R.length<=p){c:UInt8}(ae:b.data.toList[p]?=some c)(fO:Tok.e2 (b.data.toList.take p) (1,1)=(a6,aZ))(ds:Tok.blank c=false)(eR:c≠59)(eJ:Tok.letter c=false)(fk:Tok.digit c=false)(nP:Tok.sign c=false):
 ∃H',aG (aC (aU ah) aG base p7) [55] m (au 197 (ho b d v p)) H=some (.ret,au 197 [(2,bz),(3,.ref d 0 0),(4,.s (.int .i64 30))],H')/\ao H' d 0=some [bd a6,bd aZ]/\aA m [d] H H':=by
 have bt:p<b.size:=(cC.1 ae).1
 have eD:((p:Int)<(b.size:Int)):=by omega
 have fi:b.data.toList.drop p=c::b.data.toList.drop (p+1):=by
  rw[hN bt,(cC.1 ae).2]
 have dw:=Cs T.letter;have cX:=Bx T.digit;have e5:=Cr T.sign c;have o6:=st.len
 have kL:=fun(H:az) (bu:base<=H.length)=>An T.spot base H bu af (q:=p) (by omega)
 simp only[fO]at kL
 have w:=ie (n:=p) (by omega)
 have D0:=u4 c
 have nU:((c.toNat:Int)==32)=(c==32):=by rw[fc,cG,cG,fQ];rfl
 have l6:((c.toNat:Int)==9)=(c==9):=by rw[fc,cG,cG,fQ];rfl
 have o4:((c.toNat:Int)==13)=(c==13):=by rw[fc,cG,cG,fQ];rfl
 have ny:((c.toNat:Int)==10)=(c==10):=by rw[fc,cG,cG,fQ];rfl
 have jj:((c.toNat:Int)==59)=false:=by rw[eZ];intro e;exact eR ((fQ c 59).2 e)
 have fv:=ds;unfold Tok.blank at fv;simp only[rq]at fv;obtain⟨⟨⟨n32,nV⟩,oj⟩,n10⟩:=fv;obtain⟨x,y,aQ⟩:=st.res;have l2:=st.lt;have AZ:ao (H++[bq.cells 0 [V.s (.int .i64 a6),V.s (.int .i64 aZ)]]) d 0=some [x,y]:=LG aQ
 obtain⟨s1,s2⟩:=Md (m:=m) (by simp;omega) AZ l2 (au 197 [(2,bz),(3,.ref d 0 0),(4,.s (.int .i64 30))]) [bd a6,bd aZ]
 have lM:aA m [d] H (Go.dO.trim m (au 197 [(2,bz),(3,.ref d 0 0),(4,.s (.int .i64 30))]) ((H++[bq.cells 0 [V.s (.int .i64 a6),V.s (.int .i64 aZ)]]).set d (.cells 0 [bd a6,bd aZ]))):=⟨s2.1,fun id J U=>by rw[s2.2 id J U,d' (by omega)]⟩
 refine⟨_,?_,s1,lM⟩;rw[eo]
 have jH:base<=H.length:=by omega
 simp only[bz,simprocAttr,ho,bd,jD,aM,eD,ae,w,nU,n32,l6,nV,o4,oj,ny,n10,jj,dw,eJ,cX,fk,e5,nP,kL H jH,AZ,jl]
def ar5(T:uI ah){base m:Nat}{b:ByteArray}(af:b.size<=2^40){d:Nat}(jl:base<=d)(gZ:base<=m){H:az}{v:V}{a6 aZ p:Nat}{R:List (List V)}(st:lI m H d v R)(b8:R.length<=p){c:UInt8}(ae:b.data.toList[p]?=some c)(fO:Tok.e2 (b.data.toList.take p) (1,1)=(a6,aZ))(ds:Tok.blank c=false)(eR:c≠59)(eJ:Tok.letter c=false)(fk:Tok.digit c=true)(jo:(9<Tok.ba Tok.digit (b.data.toList.drop (p+1))+1\/(1<Tok.ba Tok.digit (b.data.toList.drop (p+1))+1/\c=48)\/Tok.ba Tok.digit (b.data.toList.drop (p+1))<Tok.ba Tok.within (b.data.toList.drop (p+1)))):
 ∃H',aG (aC (aU ah) aG base p7) [55] m (au 197 (ho b d v p)) H=some (.ret,au 197 [(2,bz),(3,.ref d 0 0),(4,.s (.int .i64 31))],H')/\ao H' d 0=some [bd a6,bd aZ]/\aA m [d] H H':=by
 have bt:p<b.size:=(cC.1 ae).1
 have eD:((p:Int)<(b.size:Int)):=by omega
 have fi:b.data.toList.drop p=c::b.data.toList.drop (p+1):=by
  rw[hN bt,(cC.1 ae).2]
 have dw:=Cs T.letter;have cX:=Bx T.digit;have e5:=Cr T.sign c;have o6:=st.len
 have kL:=fun(H:az) (bu:base<=H.length)=>An T.spot base H bu af (q:=p) (by omega)
 simp only[fO]at kL
 have w:=ie (n:=p) (by omega)
 have D0:=u4 c
 have nU:((c.toNat:Int)==32)=(c==32):=by rw[fc,cG,cG,fQ];rfl
 have l6:((c.toNat:Int)==9)=(c==9):=by rw[fc,cG,cG,fQ];rfl
 have o4:((c.toNat:Int)==13)=(c==13):=by rw[fc,cG,cG,fQ];rfl
 have ny:((c.toNat:Int)==10)=(c==10):=by rw[fc,cG,cG,fQ];rfl
 have jj:((c.toNat:Int)==59)=false:=by rw[eZ];intro e;exact eR ((fQ c 59).2 e)
 have fv:=ds;unfold Tok.blank at fv;simp only[rq]at fv;obtain⟨⟨⟨n32,nV⟩,oj⟩,n10⟩:=fv;have ei:=Tok.sD Tok.digit (b.data.toList.drop (p+1));rw[fJ,show b.data.toList.length=b.size from rfl]at ei
 have ak:=fun w7=>amK cX base af (d:=d) (v:=v) (w7:=w7) (from':=p) (H:=H) (b.data.toList.drop p) 0 0 rfl (by omega) (by decide)
 simp only[fi,Tok.ba,a' fk,bd,j2,oL,show((0:Nat):Int)=0 from rfl]at ak
 have wf:IntKind.i64.wrap (((p+(Tok.ba Tok.digit (b.data.toList.drop (p+1))+1):Nat):Int)-(p:Int))=((Tok.ba Tok.digit (b.data.toList.drop (p+1))+1:Nat):Int):=by rw[IntKind.wrap_i64];omega
 have qu:((c.toNat:Int)==48)=decide (c=48):=by rw[fc,cG,iA,fQ];rfl
 have bp:decide ((((Tok.ba Tok.digit (b.data.toList.drop (p+1))+1:Nat):Int)) > 9)=decide (9<Tok.ba Tok.digit (b.data.toList.drop (p+1))+1):=by rw[fc,iA,iA];omega
 have aP:decide ((((Tok.ba Tok.digit (b.data.toList.drop (p+1))+1:Nat):Int)) > 1)=decide (1<Tok.ba Tok.digit (b.data.toList.drop (p+1))+1):=by rw[fc,iA,iA];omega
 have jH:base<=H.length:=by omega
 obtain⟨jO,JH⟩:∃jO,w3 0 0 (c::b.data.toList.drop (p+1))=jO:=⟨_,rfl⟩;simp only[JH]at ak
 have Qs:∀(b5:p+(Tok.ba Tok.digit (b.data.toList.drop (p+1))+1)=b.size) ,¬(Tok.ba Tok.digit (b.data.toList.drop (p+1))<Tok.ba Tok.within (b.data.toList.drop (p+1))):=by
  intro b5 h;have:=Tok.sD Tok.within (b.data.toList.drop (p+1));rw[fJ,show b.data.toList.length=b.size from rfl]at this;omega
 have Sl:∀x,b.data.toList[p+(Tok.ba Tok.digit (b.data.toList.drop (p+1))+1)]?=some x->(Tok.letter x||x==46)=decide (Tok.ba Tok.digit (b.data.toList.drop (p+1))<Tok.ba Tok.within (b.data.toList.drop (p+1))):=fun x ae=>aac fi ae
 obtain⟨x,y,aQ⟩:=st.res;have l2:=st.lt;have AZ:ao (H++[bq.cells 0 [V.s (.int .i64 a6),V.s (.int .i64 aZ)]]) d 0=some [x,y]:=LG aQ
 obtain⟨s1,s2⟩:=Md (m:=m) (by simp;omega) AZ l2 (au 197 [(2,bz),(3,.ref d 0 0),(4,.s (.int .i64 31))]) [bd a6,bd aZ]
 have lM:aA m [d] H (Go.dO.trim m (au 197 [(2,bz),(3,.ref d 0 0),(4,.s (.int .i64 31))]) ((H++[bq.cells 0 [V.s (.int .i64 a6),V.s (.int .i64 aZ)]]).set d (.cells 0 [bd a6,bd aZ]))):=⟨s2.1,fun id J U=>by rw[s2.2 id J U,d' (by omega)]⟩
 refine⟨_,?_,s1,lM⟩;rw[eo]
 have w4:(decide (9<Tok.ba Tok.digit (b.data.toList.drop (p+1))+1)||decide (1<Tok.ba Tok.digit (b.data.toList.drop (p+1))+1)&&decide (c=48)||decide (Tok.ba Tok.digit (b.data.toList.drop (p+1))<Tok.ba Tok.within (b.data.toList.drop (p+1))))=true:=by
  simp only[jq,dr,lm,or_assoc];exact jo
 by_cases b5:p+(Tok.ba Tok.digit (b.data.toList.drop (p+1))+1)=b.size
 .have rh:decide (((p+(Tok.ba Tok.digit (b.data.toList.drop (p+1))+1):Nat):Int)<(b.size:Int))=false:=by rw[CR];omega
  rw[tD (Qs b5),uE]at w4;simp only[bz,simprocAttr,ho,bd,jD,aM,eD,ae,w,nU,n32,l6,nV,o4,oj,ny,n10,jj,dw,eJ,cX,fk,ak,wf,qu,bp,aP,kL H jH,rh,w4,AZ,jl]
 .have rh:(((p+(Tok.ba Tok.digit (b.data.toList.drop (p+1))+1):Nat):Int)<(b.size:Int)):=by omega
  obtain⟨ee,ff⟩:∃x,b.data.toList[p+(Tok.ba Tok.digit (b.data.toList.drop (p+1))+1)]?=some x:=⟨_,dy (show p+(Tok.ba Tok.digit (b.data.toList.drop (p+1))+1)<b.size by omega)⟩
  have fM:=Sl ee ff;have Tn:=CF ee;cases so:Tok.letter ee with
  |true=>
    simp only[bz,simprocAttr,ho,bd,jD,aM,eD,ae,w,nU,n32,l6,nV,o4,oj,ny,n10,jj,dw,eJ,cX,fk,ak,wf,qu,bp,aP,kL H jH,rh,ff,so,AZ,jl]
  |false=>
    rw[so,o5]at fM;simp only[bz,simprocAttr,ho,bd,jD,aM,eD,ae,w,nU,n32,l6,nV,o4,oj,ny,n10,jj,dw,eJ,cX,fk,ak,wf,qu,bp,aP,kL H jH,rh,ff,so,Tn,fM,w4,AZ,jl]
def aCZ(T:uI ah){base m:Nat}{b:ByteArray}(af:b.size<=2^40){d:Nat}(jl:base<=d)(gZ:base<=m){H:az}{v:V}{a6 aZ p:Nat}{R:List (List V)}(st:lI m H d v R)(b8:R.length<=p){c:UInt8}(ae:b.data.toList[p]?=some c)(fO:Tok.e2 (b.data.toList.take p) (1,1)=(a6,aZ))(ds:Tok.blank c=false)(eR:c≠59)(eJ:Tok.letter c=false)(fk:Tok.digit c=true)(jo:¬(9<Tok.ba Tok.digit (b.data.toList.drop (p+1))+1\/(1<Tok.ba Tok.digit (b.data.toList.drop (p+1))+1/\c=48)\/Tok.ba Tok.digit (b.data.toList.drop (p+1))<Tok.ba Tok.within (b.data.toList.drop (p+1)))):
 ∃dQ H',aG (aC (aU ah) aG base p7) [55] m (au 197 (ho b d v p)) H=aG (aC (aU ah) aG base p7) [55] m (au 197 (ho b d dQ (p+(Tok.ba Tok.digit (b.data.toList.drop (p+1))+1)))) H'/\lI m H' d dQ (R++[cP ⟨2,c::(b.data.toList.drop (p+1)).take (Tok.ba Tok.digit (b.data.toList.drop (p+1))),Tok.val (c::(b.data.toList.drop (p+1)).take (Tok.ba Tok.digit (b.data.toList.drop (p+1)))),a6,aZ⟩])/\aA m [] H H':=by
 have bt:p<b.size:=(cC.1 ae).1
 have eD:((p:Int)<(b.size:Int)):=by omega
 have fi:b.data.toList.drop p=c::b.data.toList.drop (p+1):=by
  rw[hN bt,(cC.1 ae).2]
 have dw:=Cs T.letter;have cX:=Bx T.digit;have e5:=Cr T.sign c;have o6:=st.len
 have kL:=fun(H:az) (bu:base<=H.length)=>An T.spot base H bu af (q:=p) (by omega)
 simp only[fO]at kL
 have w:=ie (n:=p) (by omega)
 have D0:=u4 c
 have nU:((c.toNat:Int)==32)=(c==32):=by rw[fc,cG,cG,fQ];rfl
 have l6:((c.toNat:Int)==9)=(c==9):=by rw[fc,cG,cG,fQ];rfl
 have o4:((c.toNat:Int)==13)=(c==13):=by rw[fc,cG,cG,fQ];rfl
 have ny:((c.toNat:Int)==10)=(c==10):=by rw[fc,cG,cG,fQ];rfl
 have jj:((c.toNat:Int)==59)=false:=by rw[eZ];intro e;exact eR ((fQ c 59).2 e)
 have fv:=ds;unfold Tok.blank at fv;simp only[rq]at fv;obtain⟨⟨⟨n32,nV⟩,oj⟩,n10⟩:=fv;have ei:=Tok.sD Tok.digit (b.data.toList.drop (p+1));rw[fJ,show b.data.toList.length=b.size from rfl]at ei
 have ak:=fun w7=>amK cX base af (d:=d) (v:=v) (w7:=w7) (from':=p) (H:=H) (b.data.toList.drop p) 0 0 rfl (by omega) (by decide)
 simp only[fi,Tok.ba,a' fk,bd,j2,oL,show((0:Nat):Int)=0 from rfl]at ak
 have wf:IntKind.i64.wrap (((p+(Tok.ba Tok.digit (b.data.toList.drop (p+1))+1):Nat):Int)-(p:Int))=((Tok.ba Tok.digit (b.data.toList.drop (p+1))+1:Nat):Int):=by rw[IntKind.wrap_i64];omega
 have qu:((c.toNat:Int)==48)=decide (c=48):=by rw[fc,cG,iA,fQ];rfl
 have bp:decide ((((Tok.ba Tok.digit (b.data.toList.drop (p+1))+1:Nat):Int)) > 9)=decide (9<Tok.ba Tok.digit (b.data.toList.drop (p+1))+1):=by rw[fc,iA,iA];omega
 have aP:decide ((((Tok.ba Tok.digit (b.data.toList.drop (p+1))+1:Nat):Int)) > 1)=decide (1<Tok.ba Tok.digit (b.data.toList.drop (p+1))+1):=by rw[fc,iA,iA];omega
 have jH:base<=H.length:=by omega
 obtain⟨jO,JH⟩:∃jO,w3 0 0 (c::b.data.toList.drop (p+1))=jO:=⟨_,rfl⟩;simp only[JH]at ak
 have Qs:∀(b5:p+(Tok.ba Tok.digit (b.data.toList.drop (p+1))+1)=b.size) ,¬(Tok.ba Tok.digit (b.data.toList.drop (p+1))<Tok.ba Tok.within (b.data.toList.drop (p+1))):=by
  intro b5 h;have:=Tok.sD Tok.within (b.data.toList.drop (p+1));rw[fJ,show b.data.toList.length=b.size from rfl]at this;omega
 have Sl:∀x,b.data.toList[p+(Tok.ba Tok.digit (b.data.toList.drop (p+1))+1)]?=some x->(Tok.letter x||x==46)=decide (Tok.ba Tok.digit (b.data.toList.drop (p+1))<Tok.ba Tok.within (b.data.toList.drop (p+1))):=fun x ae=>aac fi ae
 have s5:jO=Tok.val (c::(b.data.toList.drop (p+1)).take (Tok.ba Tok.digit (b.data.toList.drop (p+1)))):=by
  have oR:0+Tok.ba Tok.digit (c::b.data.toList.drop (p+1))<=9:=by
   simp only[Tok.ba,a' fk];have:=fun h=>jo (.inl h);omega
  rw[<- JH,ZJ _ 0 0 oR];simp only[Tok.ba,a' fk,fI];rfl
 have hI:(0<=(p:Int)/\(p:Int)<=((p+(Tok.ba Tok.digit (b.data.toList.drop (p+1))+1):Nat):Int)/\((p+(Tok.ba Tok.digit (b.data.toList.drop (p+1))+1):Nat):Int)<=(b.size:Int)):=by omega
 have hex:=extract_eq b p (Tok.ba Tok.digit (b.data.toList.drop (p+1))+1);rw[fi,fI]at hex
 obtain⟨dQ,C,uQ,zS,tE⟩:=st.app gZ (bq.cells 0 [V.s (.int .i64 a6),V.s (.int .i64 aZ)]) (row:=cP ⟨2,c::(b.data.toList.drop (p+1)).take (Tok.ba Tok.digit (b.data.toList.drop (p+1))),jO,a6,aZ⟩) rfl rfl (by omega)
 have Ap:gW (H++[bq.cells 0 [V.s (.int .i64 a6),V.s (.int .i64 aZ)]]++[bq.cells 0 [V.s (.int .u8 2),V.s (.string ⟨(c::(b.data.toList.drop (p+1)).take (Tok.ba Tok.digit (b.data.toList.drop (p+1)))).toArray⟩),V.s (.int .i64 jO),V.s (.int .i64 a6),V.s (.int .i64 aZ)]]) base 5 48 v (.aB (H.length+1) 0 0 1 5)=some (dQ,C):=uQ;rw[<- s5]
 refine⟨dQ,_,?_,zS.cj (fr:=au 197 (ho b d dQ (p+(Tok.ba Tok.digit (b.data.toList.drop (p+1))+1)))) (tO (s:=5) (by decide) rfl),aA.cj tE _⟩
 rw[eo]
 have w4:(decide (9<Tok.ba Tok.digit (b.data.toList.drop (p+1))+1)||decide (1<Tok.ba Tok.digit (b.data.toList.drop (p+1))+1)&&decide (c=48)||decide (Tok.ba Tok.digit (b.data.toList.drop (p+1))<Tok.ba Tok.within (b.data.toList.drop (p+1))))=false:=by
  rw[<- nz];simp only[jq,dr,lm,or_assoc];exact jo
 by_cases b5:p+(Tok.ba Tok.digit (b.data.toList.drop (p+1))+1)=b.size
 .have rh:decide (((p+(Tok.ba Tok.digit (b.data.toList.drop (p+1))+1):Nat):Int)<(b.size:Int))=false:=by rw[CR];omega
  rw[tD (Qs b5),uE]at w4;simp only[ho,simprocAttr,bd,jD,aM,eD,ae,w,nU,n32,l6,nV,o4,oj,ny,n10,jj,dw,eJ,cX,fk,ak,wf,qu,bp,aP,kL H jH,rh,w4,Gd,hI,hex,Ap]
 .have rh:(((p+(Tok.ba Tok.digit (b.data.toList.drop (p+1))+1):Nat):Int)<(b.size:Int)):=by omega
  obtain⟨ee,ff⟩:∃x,b.data.toList[p+(Tok.ba Tok.digit (b.data.toList.drop (p+1))+1)]?=some x:=⟨_,dy (show p+(Tok.ba Tok.digit (b.data.toList.drop (p+1))+1)<b.size by omega)⟩
  have fM:=Sl ee ff;have Tn:=CF ee;cases so:Tok.letter ee with
  |true=>
    rw[so,tU]at fM;rw[<- fM,B8]at w4;cases w4
  |false=>
    rw[so,o5]at fM;simp only[ho,simprocAttr,bd,jD,aM,eD,ae,w,nU,n32,l6,nV,o4,oj,ny,n10,jj,dw,eJ,cX,fk,ak,wf,qu,bp,aP,kL H jH,rh,ff,so,Tn,fM,w4,Gd,hI,hex,Ap]
end
end Go.Proofs.YtbocmenkkjbigaaDoor
