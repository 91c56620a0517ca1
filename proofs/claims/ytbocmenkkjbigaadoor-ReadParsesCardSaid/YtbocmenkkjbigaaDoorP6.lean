/- Texts of the proof: RdS13, RdRB, RdRC, RdRD, RdRE, RdRF, RdRG, RdRH, RdRI, RdRK, RdRL, RdRM, RdRN, RdRO, RdRQ, RdS10, RdtR1, RdtR2, RdtR3. -/
import Derived.Test.YtbocmenkkjbigaaDoorP0
import Derived.Test.YtbocmenkkjbigaaDoorP1
import Derived.Test.YtbocmenkkjbigaaDoorP2
import Derived.Test.YtbocmenkkjbigaaDoorP3
import Derived.Test.YtbocmenkkjbigaaDoorP4
import Derived.Test.YtbocmenkkjbigaaDoorP5
set_option linter.all false
set_option maxRecDepth 100000
namespace Go.Proofs.YtbocmenkkjbigaaDoor
open Go.AM
abbrev bfr:Nat:=10
def K10_0:=[1]++List.range' 4 269
def R10_0t2:=[bm2 4 (bml 0)]
def R10_0t1:=q 3 (.alloc [bmu,bmu])::R10_0t2
def R10_0p0:=[q 2 (.alloc [bms])]
def R10_0:=R10_0p0++R10_0t1
def K10_0p0:=[1]++List.range' 3 270
def X10_0(call:o8)(it:zn)(base f H):evC call it base (.region R10_0 [] K10_0) f H=ahk call it base (.region R10_0t1 [] K10_0) (a0a [] R10_0p0 K10_0p0 (mg call base [⟨some 2,.alloc [.s (.slice none 0 0)],none⟩] f H)):=(as2 call it base R10_0p0 R10_0t1 (kc:=K10_0p0) (by kernel_rfl) f H).trans (by rw[akg];rfl)
def R10_1t6:=[oM 7 33]
def R10_1t5:=bmy 2 6 32::R10_1t6
def R10_1p4:=[oM 5 31]
def R10_1t4:=R10_1p4++R10_1t5
def R10_1t3:=q 6 (.alloc [bmu,bmu])::R10_1t4
def R10_1p2:=[oM 28 30,bm5 31 28 0,bm5 32 28 1,bm5 33 28 2]
def R10_1t2:=R10_1p2++R10_1t3
def R10_1t1:=bmz 30 19 [.t 29]::R10_1t2
def R10_1p0:=[oM 29 0]
def R10_1:=R10_1p0++R10_1t1
def R10_2:=[oM 34 7,q 35 (.bin .neq (.t 34) (bml 0))]
def R10_3:LO:=[⟨some 36,.build [.s (.slice none 0 0)] [(0,1)] [],none⟩,⟨some 37,.load true 2 (.t 6),none⟩,⟨some 38,.move (.t 7),none⟩,⟨none,.store 1 (.t 2) (.t 36),none⟩,⟨none,.store 2 (.t 3) (.t 37),none⟩,⟨some 4,.move (.t 38),none⟩]
def X10_3(call:o8)(it:zn)(base f H):evC call it base (.region R10_3 [(1,3)] [5,6,7,35,36,37,38]) f H=a09 [5,6,7,35,36,37,38] (fun f'=>List.all [(1,3)] (zm call base R10_3 f H f')) (mg call base [⟨some 36,.build [.s (.slice none 0 0)] [(0,1)] [],none⟩,⟨some 37,.load true 2 (.t 6),none⟩,⟨some 38,.move (.t 7),none⟩,⟨none,.store 1 (.t 2) (.t 36),none⟩,⟨none,.store 2 (.t 3) (.t 37),none⟩,⟨some 4,.move (.t 38),none⟩] f H):=air call it base _ _ _ f H
def R10_4:=[q 8 (.alloc [bms])]
def R10_5:=[bm2 9 bmo]
def R10_6:=[bm2 10 (bml 0)]
def R10_7:=[oM 39 5,oM 40 10,bm4 41 5 39 40,oF 42 0 41,oL 43 42,q 44 (.bin .neq (.t 43) (bmm 4))]
def R10_8:=[oM 45 10,q 46 (.bin .add (.t 45) (bml 1)),oM 11 46]
def R10_9:=[oM 47 5,oM 48 11,bm4 49 5 47 48,oF 50 0 49,oL 51 50,q 52 (.bin .neq (.t 51) (bmm 4)),oM 53 52,gM 54 5 53 true,gM 55 11 53 true,qg 56 (.indexAddr 5 (.t 54) (.t 55)) 53 true,gF 57 3 56 53 true,gF 58 0 57 53 true,gL 59 58 53 true,gM 60 5 53 true,gM 61 10 53 true,qg 62 (.indexAddr 5 (.t 60) (.t 61)) 53 true,gF 63 3 62 53 true,gF 64 0 63 53 true,gL 65 64 53 true,qg 66 (.bin .eql (.t 59) (.t 65)) 53 true,bm6 67 (.t 53) (.t 66) bmo]
def R10_10:=[oM 68 11,q 69 (.bin .add (.t 68) (bml 1)),oM 11 69]
def ake:ACode:=
 (.seq (.seq (.regionE R10_9 [47,48,49,50,51,52,53,54,55,56,57,58,59,60,61,62,63,64,65,66] [67])
 (.cond (.t 67)
 .skip
 (.exit 2)))
 (.block 3
 (.regionE R10_10 [67,68,69] [11])))
def alu:ACode:=ake
def R10_11:=[oM 70 5,oM 71 10,oM 72 11,q 73 (.subSl 5 (.t 70) (some (.t 71)) (some (.t 72)) none),oM 12 73]
def R10_12:=[oF 74 0 8,oL 75 74,q 76 (.lenS .s (.t 75)),q 77 (.bin .sub (.t 76) (bml 1)),oM 13 77]
def R10_13t3:=[oM 14 78,oM 15 79,oM 16 80]
def R10_13t2:=q 80 (.buildSl 1 1 [bmr] [(0,bmp #[125])])::R10_13t3
def R10_13t1:=q 79 (.buildSl 1 2 [bmr,bmr] [(0,bmp #[78]),(1,bmp #[58])])::R10_13t2
def R10_13:=q 78 (.buildSl 1 4 [bmr,bmr,bmr,bmr] [(0,bmp #[102,117,110,99]),(1,bmp #[78]),(2,bmp #[40]),(3,bmp #[123])])::R10_13t1
def R10_14:=[oM 81 9,q 82 (.un .not (.t 81))]
def R10_15t2:=[oM 83 86,bm5 87 83 0,bm5 88 83 1,oM 17 87,oM 18 88]
def R10_15t1:=bmz 86 20 [.t 84,.t 85]::R10_15t2
def R10_15p0:=[oM 84 14,oM 85 12]
def R10_15:=R10_15p0++R10_15t1
def R10_16:=[oM 89 18,q 90 (.un .not (.t 89)),oM 91 90,gM 92 17 91 false,gM 93 12 91 false,qg 94 (.lenS .s (.t 93)) 91 false,qg 95 (.bin .lss (.t 92) (.t 94)) 91 false,bm6 96 (.t 91) bmn (.t 95)]
def R10_17t5:=[oM 4 106]
def R10_17t4:=bmy 2 3 105::R10_17t5
def R10_17t3:=bmy 1 2 104::R10_17t4
def R10_17p2:=[bm5 104 103 0,bm5 105 103 1,bm5 106 103 2]
def R10_17t2:=R10_17p2++R10_17t3
def R10_17t1:=bmz 103 21 [.t 102]::R10_17t2
def R10_17p0:=[oM 97 5,oM 98 10,oM 99 17,q 100 (.bin .add (.t 98) (.t 99)),bm4 101 5 97 100,q 102 (.load true 5 (.t 101))]
def R10_17:=R10_17p0++R10_17t1
def R10_18t2:=[bmy 3 19 111]
def R10_18t1:=q 19 (.alloc [bmr,bms,bms])::R10_18t2
def R10_18p0:=[oM 107 12,q 108 (.indexAddr 5 (.t 107) (bml 1)),oF 109 1 108,oL 110 109,q 111 (.build [bmr,bms,bms] [(0,1),(1,1),(2,1)] [(0,.t 110)])]
def R10_18:=R10_18p0++R10_18t1
def R10_19:=[bm2 20 (bml 2)]
def R10_20:=[oM 112 20,oM 113 12,q 114 (.lenS .s (.t 113)),q 115 (.bin .lss (.t 112) (.t 114))]
def R10_21:=[oM 118 12,oM 119 20,bm4 120 5 118 119,oF 121 0 120,oL 122 121,q 123 (.bin .eql (.t 122) (bmm 1))]
def R10_22t4:=[bmy 1 133 132]
def R10_22p3:=[oF 133 1 19]
def R10_22t3:=R10_22p3++R10_22t4
def R10_22t2:=q 132 (.append 1 16 (.t 125) (.t 131))::R10_22t3
def R10_22t1:=q 131 (.buildSl 1 1 [bmr] [(0,.t 130)])::R10_22t2
def R10_22p0:=[oF 124 1 19,oL 125 124,oM 126 12,oM 127 20,bm4 128 5 126 127,oF 129 1 128,oL 130 129]
def R10_22:=R10_22p0++R10_22t1
def R10_23:=[oM 116 20,q 117 (.bin .add (.t 116) (bml 1)),oM 20 117]
def akd:ACode:=
 (.seq (.seq (.regionE R10_20 [112,113,114] [115])
 (.cond (.t 115)
 .skip
 (.exit 4)))
 (.seq (.block 5
 (.seq (.regionE R10_21 [115,118,119,120,121,122] [123])
 (.cond (.t 123)
 (.region R10_22 [] [123,124,125,126,127,128,129,130,131,132,133])
 .skip)))
 (.regionE R10_23 [116,117,123] [20])))
def aq1:ACode:=akd
def R10_24t4:=[bmy 1 139 138]
def R10_24p3:=[oF 139 0 8]
def R10_24t3:=R10_24p3++R10_24t4
def R10_24t2:=q 138 (.append 3 64 (.t 135) (.t 137))::R10_24t3
def R10_24t1:=q 137 (.buildSl 3 1 [bmr,bms,bms] [(0,.t 136)])::R10_24t2
def R10_24p0:=[oF 134 0 8,oL 135 134,q 136 (.load true 3 (.t 19))]
def R10_24:=R10_24p0++R10_24t1
def R10_25:=[bm2 9 bmn]
def R10_26:=[oM 140 11,oM 10 140]
def R10_27t2:=[oM 141 144,bm5 145 141 0,bm5 146 141 1,oM 21 145,oM 22 146]
def R10_27t1:=bmz 144 20 [.t 142,.t 143]::R10_27t2
def R10_27p0:=[oM 142 16,oM 143 12]
def R10_27:=R10_27p0++R10_27t1
def R10_28:=[oM 147 22,oM 148 147,gM 149 21 148 true,gM 150 12 148 true,qg 151 (.lenS .s (.t 150)) 148 true,qg 152 (.bin .eql (.t 149) (.t 151)) 148 true,bm6 153 (.t 148) (.t 152) bmo]
def R10_29:=[bm2 9 bmo]
def R10_30:=[oM 154 11,oM 10 154]
def R10_31t2:=[oM 155 158,bm5 159 155 0,bm5 160 155 1,oM 23 159,oM 22 160]
def R10_31t1:=bmz 158 20 [.t 156,.t 157]::R10_31t2
def R10_31p0:=[oM 156 15,oM 157 12]
def R10_31:=R10_31p0++R10_31t1
def R10_32:=[oM 161 22,oM 162 161,gM 163 23 162 true,gM 164 12 162 true,qg 165 (.lenS .s (.t 164)) 162 true,qg 166 (.bin .eql (.t 163) (.t 165)) 162 true,bm6 167 (.t 162) (.t 166) bmo]
def R10_33:LO:=[⟨some 168,.fieldAddr 0 (.t 8),none⟩,⟨some 169,.load false 1 (.t 168),none⟩,⟨some 170,.move (.t 13),none⟩,⟨some 171,.fieldAddr 0 (.t 8),none⟩,⟨some 172,.load false 1 (.t 171),none⟩,⟨some 173,.move (.t 13),none⟩,⟨some 174,.indexAddr 3 (.t 172) (.t 173),none⟩,⟨some 175,.fieldAddr 2 (.t 174),none⟩,⟨some 176,.load false 1 (.t 175),none⟩,⟨some 177,.move (.t 12),none⟩,⟨some 178,.indexAddr 5 (.t 177) (.c (.s (.int .i64 0))),none⟩,⟨some 179,.fieldAddr 1 (.t 178),none⟩,⟨some 180,.load false 1 (.t 179),none⟩,⟨some 181,.build [.s (.string ⟨#[]⟩),.s (.slice none 0 0)] [(0,1),(1,1)] [(0,.t 180)],none⟩,⟨some 182,.buildSl 2 1 [.s (.string ⟨#[]⟩),.s (.slice none 0 0)] [(0,.t 181)],none⟩,⟨some 183,.append 2 40 (.t 176) (.t 182),none⟩,⟨some 184,.indexAddr 3 (.t 169) (.t 170),none⟩,⟨some 185,.fieldAddr 2 (.t 184),none⟩,⟨none,.store 1 (.t 185) (.t 183),none⟩]
def X10_33(call:o8)(it:zn)(base f H):evC call it base (.region R10_33 [(1,15)] [10,12,13,21,23,167,168,169,170,171,172,173,174,175,176,177,178,179,180,181,182,183,184,185]) f H=a09 [10,12,13,21,23,167,168,169,170,171,172,173,174,175,176,177,178,179,180,181,182,183,184,185] (fun f'=>List.all [(1,15)] (zm call base R10_33 f H f')) (mg call base [⟨some 168,.fieldAddr 0 (.t 8),none⟩,⟨some 169,.load false 1 (.t 168),none⟩,⟨some 170,.move (.t 13),none⟩,⟨some 171,.fieldAddr 0 (.t 8),none⟩,⟨some 172,.load false 1 (.t 171),none⟩,⟨some 173,.move (.t 13),none⟩,⟨some 174,.indexAddr 3 (.t 172) (.t 173),none⟩,⟨some 175,.fieldAddr 2 (.t 174),none⟩,⟨some 176,.load false 1 (.t 175),none⟩,⟨some 177,.move (.t 12),none⟩,⟨some 178,.indexAddr 5 (.t 177) (.c (.s (.int .i64 0))),none⟩,⟨some 179,.fieldAddr 1 (.t 178),none⟩,⟨some 180,.load false 1 (.t 179),none⟩,⟨some 181,.build [.s (.string ⟨#[]⟩),.s (.slice none 0 0)] [(0,1),(1,1)] [(0,.t 180)],none⟩,⟨some 182,.buildSl 2 1 [.s (.string ⟨#[]⟩),.s (.slice none 0 0)] [(0,.t 181)],none⟩,⟨some 183,.append 2 40 (.t 176) (.t 182),none⟩,⟨some 184,.indexAddr 3 (.t 169) (.t 170),none⟩,⟨some 185,.fieldAddr 2 (.t 184),none⟩,⟨none,.store 1 (.t 185) (.t 183),none⟩] f H):=air call it base _ _ _ f H
def R10_34:=[oM 186 11,oM 10 186]
def R10_35:=[oM 187 21,oM 188 23,q 189 (.minmax true (.t 187) (.t 188)),oM 21 189]
def R10_36:=[oF 190 0 8,oL 191 190,oM 192 13,bm4 193 3 191 192,oF 194 2 193,oL 195 194,oM 24 195]
def R10_37:=[bm2 25 bmo]
def R10_38t1:=[oM 26 196]
def R10_38:=bmz 196 22 []::R10_38t1
def R10_39:=[bm2 27 (bml 0)]
def R10_40:=[oM 197 27,oM 198 26,q 199 (.lenS .s (.t 198)),q 200 (.bin .lss (.t 197) (.t 199)),oM 201 200,gM 202 24 201 true,qg 203 (.lenS .s (.t 202)) 201 true,qg 204 (.bin .gtr (.t 203) (bml 0)) 201 true,bm6 205 (.t 201) (.t 204) bmo]
def R10_41t2:=[oM 208 215,bm5 216 208 0,bm5 217 208 1,oM 23 216,oM 22 217]
def R10_41t1:=bmz 215 20 [.t 213,.t 214]::R10_41t2
def R10_41p0:=[oM 209 26,oM 210 27,bm4 211 2 209 210,oF 212 1 211,oL 213 212,oM 214 12]
def R10_41:=R10_41p0++R10_41t1
def R10_42:=[oM 218 22,oM 219 218,gM 220 23 219 true,gM 221 12 219 true,qg 222 (.lenS .s (.t 221)) 219 true,qg 223 (.bin .eql (.t 220) (.t 222)) 219 true,bm6 224 (.t 219) (.t 223) bmo]
def R10_43:LO:=[⟨some 225,.move (.t 24),none⟩,⟨some 226,.move (.t 24),none⟩,⟨some 227,.lenS .s (.t 226),none⟩,⟨some 228,.bin .sub (.t 227) (.c (.s (.int .i64 1))),none⟩,⟨some 229,.move (.t 24),none⟩,⟨some 230,.move (.t 24),none⟩,⟨some 231,.lenS .s (.t 230),none⟩,⟨some 232,.bin .sub (.t 231) (.c (.s (.int .i64 1))),none⟩,⟨some 233,.indexAddr 2 (.t 229) (.t 232),none⟩,⟨some 234,.fieldAddr 1 (.t 233),none⟩,⟨some 235,.load false 1 (.t 234),none⟩,⟨some 236,.move (.t 26),none⟩,⟨some 237,.move (.t 27),none⟩,⟨some 238,.indexAddr 2 (.t 236) (.t 237),none⟩,⟨some 239,.load true 2 (.t 238),none⟩,⟨some 240,.move (.t 12),none⟩,⟨some 241,.callR (.c (.fn 23 [] [])) [.t 239,.t 240],none⟩,⟨some 242,.buildSl 8 1 [.s (.int .u8 0),.s (.string ⟨#[]⟩),.s (.string ⟨#[]⟩),.s (.string ⟨#[]⟩),.s (.int .i64 0),.s (.string ⟨#[]⟩),.s (.slice none 0 0),.s (.slice none 0 0)] [(0,.t 241)],none⟩,⟨some 243,.append 8 128 (.t 235) (.t 242),none⟩,⟨some 244,.indexAddr 2 (.t 225) (.t 228),none⟩,⟨some 245,.fieldAddr 1 (.t 244),none⟩,⟨none,.store 1 (.t 245) (.t 243),none⟩]
def X10_43(call:o8)(it:zn)(base f H):evC call it base (.region R10_43 [(2,18)] [12,23,24,25,26,27,224,225,226,227,228,229,230,231,232,233,234,235,236,237,238,239,240,241,242,243,244,245]) f H=a09 [12,23,24,25,26,27,224,225,226,227,228,229,230,231,232,233,234,235,236,237,238,239,240,241,242,243,244,245] (fun f'=>List.all [(2,18)] (zm call base R10_43 f H f')) (mg call base [⟨some 225,.move (.t 24),none⟩,⟨some 226,.move (.t 24),none⟩,⟨some 227,.lenS .s (.t 226),none⟩,⟨some 228,.bin .sub (.t 227) (.c (.s (.int .i64 1))),none⟩,⟨some 229,.move (.t 24),none⟩,⟨some 230,.move (.t 24),none⟩,⟨some 231,.lenS .s (.t 230),none⟩,⟨some 232,.bin .sub (.t 231) (.c (.s (.int .i64 1))),none⟩,⟨some 233,.indexAddr 2 (.t 229) (.t 232),none⟩,⟨some 234,.fieldAddr 1 (.t 233),none⟩,⟨some 235,.load false 1 (.t 234),none⟩,⟨some 236,.move (.t 26),none⟩,⟨some 237,.move (.t 27),none⟩,⟨some 238,.indexAddr 2 (.t 236) (.t 237),none⟩,⟨some 239,.load true 2 (.t 238),none⟩,⟨some 240,.move (.t 12),none⟩,⟨some 241,.callR (.c (.fn 23 [] [])) [.t 239,.t 240],none⟩,⟨some 242,.buildSl 8 1 [.s (.int .u8 0),.s (.string ⟨#[]⟩),.s (.string ⟨#[]⟩),.s (.string ⟨#[]⟩),.s (.int .i64 0),.s (.string ⟨#[]⟩),.s (.slice none 0 0),.s (.slice none 0 0)] [(0,.t 241)],none⟩,⟨some 243,.append 8 128 (.t 235) (.t 242),none⟩,⟨some 244,.indexAddr 2 (.t 225) (.t 228),none⟩,⟨some 245,.fieldAddr 1 (.t 244),none⟩,⟨none,.store 1 (.t 245) (.t 243),none⟩] f H):=air call it base _ _ _ f H
def R10_44:=[bm2 25 bmn]
def R10_45:=[oM 246 21,oM 247 23,q 248 (.minmax true (.t 246) (.t 247)),oM 21 248]
def R10_46:=[oM 206 27,q 207 (.bin .add (.t 206) (bml 1)),oM 27 207]
def akc:ACode:=
 (.seq (.seq (.regionE R10_40 [197,198,199,200,201,202,203,204] [205])
 (.cond (.t 205)
 .skip
 (.exit 6)))
 (.seq (.block 7
 (.seq (.region R10_41 [] [205,208,209,210,211,212,213,214,215,216,217])
 (.seq (.seq (.regionE R10_42 [22,218,219,220,221,222,223] [224])
 (.cond (.t 224)
 (.seq (.region R10_43 [(2,18)] [12,23,24,25,26,27,224,225,226,227,228,229,230,231,232,233,234,235,236,237,238,239,240,241,242,243,244,245])
 (.seq (.regionE R10_44 [] [25])
 (.exit 6)))
 .skip))
 (.regionE R10_45 [23,224,246,247,248] [21]))))
 (.regionE R10_46 [206,207] [27])))
def ad2:ACode:=akc
def R10_47:=[oM 249 25,q 250 (.un .not (.t 249))]
def R10_48t5:=[oM 4 260]
def R10_48t4:=bmy 2 3 259::R10_48t5
def R10_48t3:=bmy 1 2 258::R10_48t4
def R10_48p2:=[bm5 258 257 0,bm5 259 257 1,bm5 260 257 2]
def R10_48t2:=R10_48p2++R10_48t3
def R10_48t1:=bmz 257 21 [.t 256]::R10_48t2
def R10_48p0:=[oM 251 5,oM 252 10,oM 253 21,q 254 (.bin .add (.t 252) (.t 253)),bm4 255 5 251 254,q 256 (.load true 5 (.t 255))]
def R10_48:=R10_48p0++R10_48t1
def R10_49:=[oM 261 11,oM 10 261]
def zk:ACode:=
 (.seq (.seq (.regionE R10_7 [39,40,41,42,43] [44])
 (.cond (.t 44)
 .skip
 (.exit 0)))
 (.block 1
 (.seq (.regionE R10_8 [44,45,46] [11])
 (.seq (.block 2
 (.loop [] alu))
 (.seq (.regionE R10_11 [67,70,71,72,73] [12])
 (.seq (.regionE R10_12 [74,75,76,77] [13])
 (.seq (.region R10_13 [] [78,79,80])
 (.seq (.seq (.regionE R10_14 [81] [82])
 (.cond (.t 82)
 (.seq (.region R10_15 [] [9,13,14,15,16,82,83,84,85,86,87,88])
 (.seq (.seq (.regionE R10_16 [18,89,90,91,92,93,94,95] [96])
 (.cond (.t 96)
 (.seq (.region R10_17 [] [5,8,10,11,12,17,96,97,98,99,100,101,102,103,104,105,106])
 .ret)
 .skip))
 (.seq (.region R10_18 [] [10,17,96,107,108,109,110,111])
 (.seq (.seq (.regionE R10_19 [] [20])
 (.block 4
 (.loop [] aq1)))
 (.seq (.region R10_24 [] [12,19,20,115,134,135,136,137,138,139])
 (.seq (.regionE R10_25 [] [9])
 (.seq (.regionE R10_26 [11,140] [10])
 (.exit 1))))))))
 .skip))
 (.seq (.region R10_27 [] [14,16,82,141,142,143,144,145,146])
 (.seq (.seq (.regionE R10_28 [22,147,148,149,150,151,152] [153])
 (.cond (.t 153)
 (.seq (.regionE R10_29 [10,12,13,15,21,153] [9])
 (.seq (.regionE R10_30 [11,154] [10])
 (.exit 1)))
 .skip))
 (.seq (.region R10_31 [] [15,153,155,156,157,158,159,160])
 (.seq (.seq (.regionE R10_32 [22,161,162,163,164,165,166] [167])
 (.cond (.t 167)
 (.seq (.region R10_33 [(1,15)] [10,12,13,21,23,167,168,169,170,171,172,173,174,175,176,177,178,179,180,181,182,183,184,185])
 (.seq (.regionE R10_34 [11,186] [10])
 (.exit 1)))
 .skip))
 (.seq (.regionE R10_35 [23,167,187,188,189] [21])
 (.seq (.regionE R10_36 [13,190,191,192,193,194,195] [24])
 (.seq (.regionE R10_37 [] [25])
 (.seq (.region R10_38 [] [196])
 (.seq (.seq (.regionE R10_39 [] [27])
 (.block 6
 (.loop [] ad2)))
 (.seq (.seq (.regionE R10_47 [12,24,25,26,27,205,249] [250])
 (.cond (.t 250)
 (.seq (.region R10_48 [] [5,8,9,10,11,21,250,251,252,253,254,255,256,257,258,259,260])
 .ret)
 .skip))
 (.regionE R10_49 [11,21,250,261] [10])))))))))))))))))))
def aar:ACode:=zk
def R10_50:=[oM 262 9]
def R10_51t5:=[oM 4 270]
def R10_51t4:=bmy 2 3 269::R10_51t5
def R10_51t3:=bmy 1 2 268::R10_51t4
def R10_51p2:=[bm5 268 267 0,bm5 269 267 1,bm5 270 267 2]
def R10_51t2:=R10_51p2++R10_51t3
def R10_51t1:=bmz 267 21 [.t 266]::R10_51t2
def R10_51p0:=[oM 263 5,oM 264 10,bm4 265 5 263 264,q 266 (.load true 5 (.t 265))]
def R10_51:=R10_51p0++R10_51t1
def R10_52t3:=[bm2 4 (bml 0)]
def R10_52t2:=bmy 2 3 272::R10_52t3
def R10_52t1:=bmy 1 2 271::R10_52t2
def R10_52p0:=[q 271 (.load true 1 (.t 8)),q 272 (.build [bmu,bmu] [(0,1),(1,1)] [])]
def R10_52:=R10_52p0++R10_52t1
def af4:ACFun:={ ntmps:=273,results:=[.cell 2 true 1,.cell 3 true 2,.tmp 4],body:=
 (.seq (.region R10_0 [] K10_0)
 (.seq (.region R10_1 [] [0,28,29,30,31,32,33])
 (.seq (.seq (.regionE R10_2 [34] [35])
 (.cond (.t 35)
 (.seq (.region R10_3 [(1,3)] [5,6,7,35,36,37,38])
 .ret)
 .skip))
 (.seq (.region R10_4 [] [6,7,35])
 (.seq (.regionE R10_5 [] [9])
 (.seq (.regionE R10_6 [] [10])
 (.seq (.block 0
 (.loop [] aar))
 (.seq (.seq (.regionE R10_50 [9,44] [262])
 (.cond (.t 262)
 (.seq (.region R10_51 [] [5,8,10,262,263,264,265,266,267,268,269,270])
 .ret)
 .skip))
 (.seq (.region R10_52 [] [5,8,10,262,271,272])
 .ret))))))))) }
theorem awc:ql (List.range' 1 (af4.ntmps-1)) af4.body=true:=by kernel_rfl
def abo:=ai (hK K10_0p0 0) (ai (hK K10_0p0 2) (ai (hQ K10_0p0 3) (ai (hQ K10_0p0 4) (ai X10_0 (ai (hP R10_0t1 [] K10_0) (ai (hV R10_0t2 K10_0 [] 5 [] [] [.cc (.s (.int .i64 0))]) (ai (hK K10_0 0) (ai (hK K10_0 2) (ai (hK K10_0 3) (ai (hQ K10_0 4) (ai (hU R10_1 [0] [29] boq 30 [] [(29,.t 0)] [.tt 0]) (ai (hP R10_1t1 [29] boq) (ai (hU R10_1t2 [28,30] [31,32,33] boq 34 [] [(31,bnh 0 (.t 30)),(32,bnh 1 (.t 30)),(33,bnh 2 (.t 30))] [.tt 30,sb [],.sub 1 [] [],.sub 2 [] []]) (ai (hP R10_1t3 [] boq) (ai (hU R10_1t4 [31] [5] boq 6 [] [(5,.t 31)] [.tt 31]) (ai (hP R10_1t5 [32] boq) (ai (hV R10_1t6 [0,28,29,30,31,32,33] [7] 8 [] [(7,.t 33)] [.tt 33]) (ai (hT R10_2 [34] [35] 36 [] [(35,bnq .neq 0 (.t 7))] [.tt 7,sb []]) (ai (hX R10_4 [6,7,35]) (ai (hT R10_5 [] [9] 10 [] [(9,bnb)] [.cc (.s (.bool false))]) (ai (hT R10_6 [] [10] 11 [] [(10,bm8 0)] [.cc (.s (.int .i64 0))]) (ai (hT R10_7 [39,40,41,42,43] [44] 45 [] [(44,bnp .neq 4 (eL (eF 0 (bnj 5 (.t 5) (.t 10)))))] [.tt 5,.tt 10,sb [0,0,0],sb [0,0],sb [0],sb []]) (ai (hT R10_8 [44,45,46] [11] 47 [] [(11,bnf 1 (.t 10))] [.tt 10,sb [],sb []]) (ai (hT R10_9 [47,48,49,50,51,52,53,54,55,56,57,58,59,60,61,62,63,64,65,66] [67] 68 [] [(67,.pick (bnp .neq 4 (eL (eF 0 (bnj 5 (.t 5) (.t 11))))) (bno .eql (eL (eF 0 (eF 3 (bnj 5 (.t 5) (.t 11))))) (eL (eF 0 (eF 3 (bnj 5 (.t 5) (.t 10)))))) bnb)] [.tt 5,.tt 11,sb [0,0,0,0],sb [0,0,0],sb [0,0],sb [0],sb [0],.sub 0 [1,0,0,0,0,0] [53],.sub 0 [1,0,0,0,0,1] [53],.sub 0 [1,0,0,0,0] [53],.sub 0 [1,0,0,0] [53],.sub 0 [1,0,0] [53],.sub 0 [1,0] [53],.sub 0 [1,0,0,0,0,0] [53],.sub 0 [1,1,0,0,0,1] [53],.sub 0 [1,1,0,0,0] [53],.sub 0 [1,1,0,0] [53],.sub 0 [1,1,0] [53],.sub 0 [1,1] [53],.sub 0 [1] [53],sb []]) (ai (hT R10_10 [67,68,69] [11] 70 [] [(11,bnf 1 (.t 11))] [.tt 11,sb [],sb []]) (ai (hE alu ake) (ai (hT R10_11 [67,70,71,72,73] [12] 74 [] [(12,.op (.subSl 5 (.t 0) (some (.t 1)) (some (.t 2)) none) [.t 5,.t 10,.t 11])] [.tt 5,.tt 10,.tt 11,sb [],sb []]) (ai (hT R10_12 [74,75,76,77] [13] 78 [] [(13,bnq .sub 1 (bnl (eL (eF 0 (.t 8)))))] [sb [0,0,0],sb [0,0],sb [0],sb [],sb []]) (ai (hP R10_13 [] [78,79,80]) (ai (hP R10_13t1 [] [78,79,80]) (ai (hP R10_13t2 [] [78,79,80]) (ai (hV R10_13t3 [78,79,80] [14,15,16] 17 [] [(14,.t 78),(15,.t 79),(16,.t 80)] [.tt 78,.tt 79,.tt 80]) (ai (hT R10_14 [81] [82] 83 [] [(82,bnn (.t 9))] [.tt 9,sb []]) (ai (hU R10_15 [9,13,14,15,16,82] [84,85] bor 86 [] [(84,.t 14),(85,.t 12)] [.tt 14,.tt 12]) (ai (hP R10_15t1 [84,85] bor) (ai (hV R10_15t2 [9,13,14,15,16,82,83,84,85,86,87,88] [17,18] 89 [] [(17,bnh 0 (.t 86)),(18,bnh 1 (.t 86))] [.tt 86,sb [],.sub 1 [] [],sb [],.sub 1 [] []]) (ai (hT R10_16 [18,89,90,91,92,93,94,95] [96] 97 [] [(96,.pick (bnn (.t 18)) bna (bno .lss (.t 17) (bnl (.t 12))))] [.tt 18,sb [0],sb [0],.sub 0 [2,0] [91],.sub 0 [2,1,0] [91],.sub 0 [2,1] [91],.sub 0 [2] [91],sb []]) (ai (hU R10_17 [5,8,10,11,12,17,96,97,98,99,100,101] [102] bos 103 [] [(102,bnm 5 (bnj 5 (.t 5) (bno .add (.t 10) (.t 17))))] [.tt 5,.tt 10,.tt 17,sb [0,1],sb [0],sb []]) (ai (hP R10_17t1 [102] bos) (ai (hU R10_17t2 [103] [104,105,106] bos 107 [] [(104,bnh 0 (.t 103)),(105,bnh 1 (.t 103)),(106,bnh 2 (.t 103))] [sb [],.sub 1 [] [],.sub 2 [] []]) (ai (hP R10_17t3 [104] bos) (ai (hP R10_17t4 [105] bos) (ai (hV R10_17t5 [5,8,10,11,12,17,96,97,98,99,100,101,102,103,104,105,106] [4] 5 [] [(4,.t 106)] [.tt 106]) (ai (hU R10_18 [10,17,96,107,108,109,110] [111] [10,17,96,107,108,109,110,111] 112 [] [(111,.op (.build [.s (.string ⟨#[]⟩),.s (.slice none 0 0),.s (.slice none 0 0)] [(0,1),(1,1),(2,1)] [(0,.t 0)]) [eL (eF 1 (bnk 5 1 (.t 12)))])] [.tt 12,sb [0,0,0],sb [0,0],sb [0],sb []]) (ai (hP R10_18t1 [] [10,17,96,107,108,109,110,111]) (ai (hX R10_18t2 [10,17,96,107,108,109,110,111]) (ai (hT R10_19 [] [20] 21 [] [(20,bm8 2)] [.cc (.s (.int .i64 2))]) (ai (hT R10_20 [112,113,114] [115] 116 [] [(115,bno .lss (.t 20) (bnl (.t 12)))] [.tt 20,.tt 12,sb [1],sb []]) (ai (hT R10_21 [115,118,119,120,121,122] [123] 124 [] [(123,bni 1 (eL (eF 0 (bnj 5 (.t 12) (.t 20)))))] [.tt 12,.tt 20,sb [0,0,0],sb [0,0],sb [0],sb []]) (ai (hU R10_22 [123,124,126,127,128,129] [125,130] bou 131 [] [(125,eL (eF 1 (.t 19))),(130,eL (eF 1 (bnj 5 (.t 12) (.t 20))))] [sb [0],sb [],.tt 12,.tt 20,.sub 1 [0,0] [],.sub 1 [0] [],.sub 1 [] []]) (ai (hP R10_22t1 [130] bou) (ai (hP R10_22t2 [125,131] bou) (ai (hU R10_22t3 [] [133] bou 134 [] [(133,eF 1 (.t 19))] [sb []]) (ai (hX R10_22t4 [123,124,125,126,127,128,129,130,131,132,133]) (ai (hT R10_23 [116,117,123] [20] 118 [] [(20,bnf 1 (.t 20))] [.tt 20,sb [],sb []]) (ai (hE aq1 akd) (ai (hU R10_24 [12,19,20,115,134] [135,136] bov 137 [] [(135,eL (eF 0 (.t 8))),(136,bnm 3 (.t 19))] [sb [0],sb [],.sub 1 [] []]) (ai (hP R10_24t1 [136] bov) (ai (hP R10_24t2 [135,137] bov) (ai (hU R10_24t3 [] [139] bov 140 [] [(139,eF 0 (.t 8))] [sb []]) (ai (hX R10_24t4 [12,19,20,115,134,135,136,137,138,139]) (ai (hT R10_25 [] [9] 10 [] [(9,bna)] [.cc (.s (.bool true))]) (ai (hT R10_26 [11,140] [10] 141 [] [(10,.t 11)] [.tt 11,.tt 11]) (ai (hU R10_27 [14,16,82] [142,143] bow 144 [] [(142,.t 16),(143,.t 12)] [.tt 16,.tt 12]) (ai (hP R10_27t1 [142,143] bow) (ai (hV R10_27t2 [14,16,82,141,142,143,144,145,146] [21,22] 147 [] [(21,bnh 0 (.t 144)),(22,bnh 1 (.t 144))] [.tt 144,sb [],.sub 1 [] [],sb [],.sub 1 [] []]) (ai (hT R10_28 [22,147,148,149,150,151,152] [153] 154 [] [(153,.pick (.t 22) (bno .eql (.t 21) (bnl (.t 12))) bnb)] [.tt 22,.tt 22,.sub 0 [1,0] [148],.sub 0 [1,1,0] [148],.sub 0 [1,1] [148],.sub 0 [1] [148],sb []]) (ai (hT R10_29 [10,12,13,15,21,153] [9] 10 [] [(9,bnb)] [.cc (.s (.bool false))]) (ai (hT R10_30 [11,154] [10] 155 [] [(10,.t 11)] [.tt 11,.tt 11]) (ai (hU R10_31 [15,153] [156,157] boy 158 [] [(156,.t 15),(157,.t 12)] [.tt 15,.tt 12]) (ai (hP R10_31t1 [156,157] boy) (ai (hV R10_31t2 [15,153,155,156,157,158,159,160] [23,22] 161 [] [(23,bnh 0 (.t 158)),(22,bnh 1 (.t 158))] [.tt 158,sb [],.sub 1 [] [],sb [],.sub 1 [] []]) (ai (hT R10_32 [22,161,162,163,164,165,166] [167] 168 [] [(167,.pick (.t 22) (bno .eql (.t 23) (bnl (.t 12))) bnb)] [.tt 22,.tt 22,.sub 0 [1,0] [162],.sub 0 [1,1,0] [162],.sub 0 [1,1] [162],.sub 0 [1] [162],sb []]) (ai (hT R10_34 [11,186] [10] 187 [] [(10,.t 11)] [.tt 11,.tt 11]) (ai (hT R10_35 [23,167,187,188,189] [21] 190 [] [(21,.op (.minmax true (.t 0) (.t 1)) [.t 21,.t 23])] [.tt 21,.tt 23,sb [],sb []]) (ai (hT R10_36 [13,190,191,192,193,194,195] [24] 196 [] [(24,eL (eF 2 (bnj 3 (eL (eF 0 (.t 8))) (.t 13))))] [sb [0,0,0,0],sb [0,0,0],.tt 13,sb [0,0],sb [0],sb [],sb []]) (ai (hT R10_37 [] [25] 26 [] [(25,bnb)] [.cc (.s (.bool false))]) (ai (hP R10_38 [] [196]) (ai (hV R10_38t1 [196] [26] 27 [] [(26,.t 196)] [.tt 196]) (ai (hT R10_39 [] [27] 28 [] [(27,bm8 0)] [.cc (.s (.int .i64 0))]) (ai (hT R10_40 [197,198,199,200,201,202,203,204] [205] 206 [] [(205,.pick (bno .lss (.t 27) (bnl (.t 26))) (bnq .gtr 0 (bnl (.t 24))) bnb)] [.tt 27,.tt 26,sb [0,1],sb [0],sb [0],.sub 0 [1,0,0] [201],.sub 0 [1,0] [201],.sub 0 [1] [201],sb []]) (ai (hU R10_41 [205,209,210,211,212] [213,214] boz 215 [] [(213,eL (eF 1 (bnj 2 (.t 26) (.t 27)))),(214,.t 12)] [.tt 26,.tt 27,sb [0,0],sb [0],sb [],.tt 12]) (ai (hP R10_41t1 [213,214] boz) (ai (hV R10_41t2 [205,208,209,210,211,212,213,214,215,216,217] [23,22] 218 [] [(23,bnh 0 (.t 215)),(22,bnh 1 (.t 215))] [.tt 215,sb [],.sub 1 [] [],sb [],.sub 1 [] []]) (ai (hT R10_42 [22,218,219,220,221,222,223] [224] 225 [] [(224,.pick (.t 22) (bno .eql (.t 23) (bnl (.t 12))) bnb)] [.tt 22,.tt 22,.sub 0 [1,0] [219],.sub 0 [1,1,0] [219],.sub 0 [1,1] [219],.sub 0 [1] [219],sb []]) (ai (hT R10_44 [] [25] 26 [] [(25,bna)] [.cc (.s (.bool true))]) (ai (hT R10_45 [23,224,246,247,248] [21] 249 [] [(21,.op (.minmax true (.t 0) (.t 1)) [.t 21,.t 23])] [.tt 21,.tt 23,sb [],sb []]) (ai (hT R10_46 [206,207] [27] 208 [] [(27,bnf 1 (.t 27))] [.tt 27,sb [],sb []]) (ai (hE ad2 akc) (ai (hT R10_47 [12,24,25,26,27,205,249] [250] 251 [] [(250,bnn (.t 25))] [.tt 25,sb []]) (ai (hU R10_48 [5,8,9,10,11,21,250,251,252,253,254,255] [256] bo0 257 [] [(256,bnm 5 (bnj 5 (.t 5) (bno .add (.t 10) (.t 21))))] [.tt 5,.tt 10,.tt 21,sb [0,1],sb [0],sb []]) (ai (hP R10_48t1 [256] bo0) (ai (hU R10_48t2 [257] [258,259,260] bo0 261 [] [(258,bnh 0 (.t 257)),(259,bnh 1 (.t 257)),(260,bnh 2 (.t 257))] [sb [],.sub 1 [] [],.sub 2 [] []]) (ai (hP R10_48t3 [258] bo0) (ai (hP R10_48t4 [259] bo0) (ai (hV R10_48t5 [5,8,9,10,11,21,250,251,252,253,254,255,256,257,258,259,260] [4] 5 [] [(4,.t 260)] [.tt 260]) (ai (hT R10_49 [11,21,250,261] [10] 262 [] [(10,.t 11)] [.tt 11,.tt 11]) (ai (hE aar zk) (ai (hT R10_50 [9,44] [262] 263 [] [(262,.t 9)] [.tt 9]) (ai (hU R10_51 [5,8,10,262,263,264,265] [266] bo1 267 [] [(266,bnm 5 (bnj 5 (.t 5) (.t 10)))] [.tt 5,.tt 10,sb [0],sb []]) (ai (hP R10_51t1 [266] bo1) (ai (hU R10_51t2 [267] [268,269,270] bo1 271 [] [(268,bnh 0 (.t 267)),(269,bnh 1 (.t 267)),(270,bnh 2 (.t 267))] [sb [],.sub 1 [] [],.sub 2 [] []]) (ai (hP R10_51t3 [268] bo1) (ai (hP R10_51t4 [269] bo1) (ai (hV R10_51t5 [5,8,10,262,263,264,265,266,267,268,269,270] [4] 5 [] [(4,.t 270)] [.tt 270]) (ai (hU R10_52 [5,8,10,262] [271,272] bo2 273 [] [(271,bnm 1 (.t 8)),(272,.op (.build [.s (.int .i64 0),.s (.int .i64 0)] [(0,1),(1,1)] []) [])] [sb [],.sub 1 [] []]) (ai (hP R10_52t1 [271] bo2) (ai (hP R10_52t2 [272] bo2) (ai (hV R10_52t3 [5,8,10,262,271,272] [4] 5 [] [(4,bm8 0)] [.cc (.s (.int .i64 0))]) (ai ake.eq_1 (ai zk.eq_1 (ai akc.eq_1 (akd.eq_1)))))))))))))))))))))))))))))))))))))))))))))))))))))))))))))))))))))))))))))))))))))))))))))))))))))))))))))))))
theorem bko:yf Tryd.prog PX0 10=some (false,af4.ntmps,af4.results,af4.body.bare):=by kernel_rfl
def alk(ts:List Tok.T):Prop:=∀(i:Nat) (t:Tok.T),ts[i]?=some t->t.kind≠4->i+1<ts.length
def a4p{ts}(hE:alk ts)(ln):∀(l:List Tok.T) (j:Nat),ts.drop j=l->j<ts.length->j+age ln l<ts.length:=by
 intro l
 induction l with
 |nil=>intro j _ hj;exact hj
 |cons t l ih=>
   intro j hd hj
   have hx:ts[j]?=some t:=by have:=jv (·[0]?) hd;simp only[jc]at this;exact this
   have hd':ts.drop (j+1)=l:=by
    have:=jv (List.drop 1) hd
    simpa[qc]using this
   rw[age];by_cases h:t.kind=4\/t.line≠ln
   .rw[dw h];exact hj
   .rw[fu h];rw[bjj]at h;have:=ih (j+1) hd' (hE j t hx h.1);omega
section
variable {CT:Nat->Option CFun}
def rp_l0(base:Nat){C}{tid tg:Nat}{ts}(hw:Wz C tid tg ts)(hE:alk ts)(hn:ts.length<2^40){u2 u3 u8 u9}{a:Nat}{t0}(h0:ts[a]?=some t0):∀(l:List Tok.T) (j:Nat),ts.drop j=l->j<ts.length->
 itW (evC (gq CT) itW base alu) [] C.length (ja 273 [(2,u2),(3,u3),(5,.sl tid tg 0 ts.length 5),(8,u8),(9,u9),(10,.s (.int .i64 a)),(11,.s (.int .i64 j))]) C=some (.ext 2,ja 273 [(2,u2),(3,u3),(5,.sl tid tg 0 ts.length 5),(8,u8),(9,u9),(10,.s (.int .i64 a)),(11,.s (.int .i64 (j+age t0.line l:Nat))),(67,.s (.bool false))],C):=by
 have hp:=hw.all;intro l
 induction l with
 |nil=>
   intro j hd hj;have:=jv List.length hd;rw[ig,d9]at this;omega
 |cons t l ih=>
   intro j hd hj
   have hx:ts[j]?=some t:=by have:=jv (·[0]?) hd;simp only[jc]at this;exact this
   have hd':ts.drop (j+1)=l:=by
    have:=jv (List.drop 1) hd
    simpa[qc]using this
   obtain⟨i1,g1,p1,a1,_,a2,_,_,a3⟩:=hp.at hx;obtain⟨i2,g2,p2,b1,_,_,_,_,b3⟩:=hp.at h0;have ht:∀fr,trim C.length fr C=C:=fun fr=>ach rfl
   have kj:=uf (n:=j) (by omega)
   rw[age,kg];by_cases k4:t.kind=4
   .rw[dw (.inl k4),o7]
    have e4:(((t.kind:Nat):Int) != 4)=false:=by rw[k4];rfl
    simp only[abo,simprocAttr,aa,a1,a2,e4,ht]
   .have e4:(((t.kind:Nat):Int) != 4)=true:=by rw[ny];omega
    by_cases kl:t.line≠t0.line
    .rw[dw (.inr kl),o7]
     have el:(((t.line:Nat):Int)==((t0.line:Nat):Int))=false:=by rw[cz];omega
     simp only[abo,simprocAttr,aa,a1,a2,a3,b1,b3,e4,el,ht]
    .rw[fu (by rw[bjj];exact⟨k4,kl⟩)]
     rw[aez]at kl
     have el:(((t.line:Nat):Int)==((t0.line:Nat):Int))=true:=by rw[kl];exact lg _
     have q:=ih (j+1) hd' (hE j t hx k4)
     rw[show j+1+age t0.line l=j+(age t0.line l+1) by omega]at q
     simp only[abo,simprocAttr,aa,a1,a2,a3,b1,b3,e4,el,kj,ht,q]
structure PaS (z:Nat) (H:Heap) (nm:ByteArray) (ps:List ByteArray) (pv:V) (C:Heap):Prop where
 box:getC C z 0=some [.s (.string nm),pv,.s (.slice none 0 0)]
 row:uj (z+1) 1 C pv (yu ps)
 len:z+1<=C.length
 old:∀i,i<z->C[i]?=H[i]?
 nil:ps=[]->pv=ow
def PaS.tr{z H nm ps pv C}(h:PaS z H nm ps pv C)(fr):PaS z H nm ps pv (trim (z+1) fr C):=by
 by_cases h0:ps=[]
 .have hv:=h.nil h0;have hl:=h.len
  have hg:∀i,i<z+1->∀c,getC C i 0=some c->getC (trim (z+1) fr C) i 0=some c:=fun i hi c hc=>by
   unfold getC at hc |-;rw[acr _ _ _ hi];exact hc
  refine⟨hg _ (by omega) _ h.box,by rw[hv,h0];exact uj.start _ _ _,?_,fun i hi=>by rw[acr _ _ _ (by omega),h.old i hi],h.nil⟩
  rcases Go.AM.trim_or (z+1) fr C with e|⟨e,_⟩<;>rw[e]
  .exact hl
  .rw[l5];omega
 .have e:trim (z+1) fr C=C:=by
   rcases ae2 (z+1) fr C with e|⟨_,_,e⟩
   .exact e
   .obtain⟨i,g',e1,e2⟩:=bdd h.row h0
    have:=e z 0 _ (by omega) h.box i g' 0 ps.length 1 (by rw[<- e1];simp)
    omega
  rw[e];exact h
set_option maxHeartbeats 1000000 in
def rp_l1(base){z H}(hb:base<=z)(ha:H.length<=z){v u2 u3 u5 u8 u11 l}(hp:Pz H v l)(hn:l.length<2^40){nm}:∀(ls:List Tok.T) (j:Nat) (ps:List ByteArray) (pv:V) (C:Heap),l.drop j=ls->j<=l.length->ps.length<=j->PaS z H nm ps pv C->
 ∃pv' C',itW (evC (gq CT) itW base aq1) [] (z+1) (ja 273 [(2,u2),(3,u3),(5,u5),(8,u8),(11,u11),(12,v),(19,.ref z 0 0),(20,.s (.int .i64 j))]) C=some (.ext 4,ja 273 [(2,u2),(3,u3),(5,u5),(8,u8),(11,u11),(12,v),(19,.ref z 0 0),(20,.s (.int .i64 l.length)),(115,.s (.bool false))],C')/\PaS z H nm (o5 ps ls) pv' C':=by
 intro ls
 induction ls with
 |nil=>
   intro j ps pv C hd hj hns h
   have hjl:j=l.length:=by
    have:=jv List.length hd;rw[ig,d9]at this;omega
   subst hjl;have hl:=(hp.keep ha h.old).len;refine⟨pv,_,?_,h.tr (ja 273 [(2,u2),(3,u3),(5,u5),(8,u8),(11,u11),(12,v),(19,.ref z 0 0),(20,.s (.int .i64 l.length)),(115,.s (.bool false))])⟩;rw[kg];simp only[abo,simprocAttr,aa,hl,qm]
 |cons t ls ih=>
   intro j ps pv C hd hj hns h
   have hjx:l[j]?=some t:=by have:=jv (·[0]?) hd;simp only[jc]at this;exact this
   have hjl:=(bmk.1 hjx).1
   have hd':l.drop (j+1)=ls:=by
    have:=jv (List.drop 1) hd
    simpa[qc]using this
   have hlt:((j:Int)<((l.length:Nat):Int)):=by omega
   have kj:=uf (n:=j) (by omega)
   have hpC:=hp.keep ha h.old;have hl:=hpC.len;obtain⟨id,g,p,y1,_,y2,y3,_⟩:=hpC.at hjx;have nb1:=ab6 t.kind 1;simp only[aaz]at nb1;rw[o5];by_cases k1:t.kind=1
   .have b1:(t.kind==1)=true:=by rw[k1];rfl
    rw[b1]at nb1;have hlen:=h.len
    obtain⟨nv2,D,a1,a2,a3,a4⟩:=aog h.row (base:=base) (bytes:=16) (by omega) hlen ⟨t.text.toArray⟩ (by omega)
    have hk:∀i,i<z+1->D[i]?=C[i]?:=fun i hi=>a4 i (by omega) fun g n e=>by
     have hps:=h.row;subst e;have:=tu hps;omega
    have gD:getC D z 0=some [.s (.string nm),pv,.s (.slice none 0 0)]:=by
     have:=h.box;unfold getC at this |-
     rw[hk z (by omega)]
     exact this
    obtain⟨E,hE⟩:∃X,D.set z (.cells 0 [.s (.string nm),nv2,.s (.slice none 0 0)])=X:=⟨_,rfl⟩
    have kE:∀i,i≠z->E[i]?=D[i]?:=fun i hi=>by rw[<- hE,ae (sj hi)]
    have lE:E.length=D.length:=by rw[<- hE,fe]
    have hst:PaS z H nm (ps++[⟨t.text.toArray⟩]) nv2 E:=⟨hE▸kz gD _,a2.keep fun i g n e=>(by subst e;have:=tu a2;exact kE i (by omega)),by omega,fun i hi=>by rw[kE i (by omega),hk i (by omega),h.old i hi],fun e=>by simp at e⟩
    have hvo:=h.row.rd.one;have hvo2:=a2.rd.one;have cv2:=yz hvo2;have bx:=h.box
    obtain⟨nv',C',r1,r2⟩:=ih (j+1) _ nv2 _ hd' (by omega) (by rw[gm,bi];omega) (hst.tr (ja 273 [(2,u2),(3,u3),(5,u5),(8,u8),(11,u11),(12,v),(19,.ref z 0 0),(20,.s (.int .i64 (j+1:Nat)))]))
    rw[dw k1];refine⟨nv',C',?_,r2⟩;simp only[Sb]at a1;rw[kg];simp only[abo,simprocAttr,aa,hl,hlt,y1,y2,y3,nb1,bx,a1,hvo2,cv2,gD,hE,hb,kj,r1]
   .have b1:(t.kind==1)=false:=by rw[cz];exact k1
    rw[b1]at nb1;rw[fu k1]
    obtain⟨nv',C',r1,r2⟩:=ih (j+1) ps pv _ hd' (by omega) (by omega) (h.tr (ja 273 [(2,u2),(3,u3),(5,u5),(8,u8),(11,u11),(12,v),(19,.ref z 0 0),(20,.s (.int .i64 (j+1:Nat)))]))
    refine⟨nv',C',?_,r2⟩;rw[kg];simp only[abo,simprocAttr,aa,hl,hlt,y1,y2,nb1,kj,r1]
end
def idx3{id g N}:pg 3 (.sl id g 0 (N+1) 3) (.s (.int .i64 (N:Int)))=some (.ref id g (N*3)):=by
 rw[alh,dw ⟨by omega,by omega,rfl⟩,og,ng]
theorem att{C id g n c0 x y z}(h:getC C id g=some (c0++[x,y,z]))(hl:c0.length=n):y5 C false 1 (.ref id g (n+2))=some z:=by
 rw[aav,h]
 have:(c0++[x,y,z]).drop (n+2)=[z]:=by
  rw[aae,mf (by omega),hl]
  simp
 dsimp only;rw[this];rfl
section
variable {CT:Nat->Option CFun}
set_option maxHeartbeats 1000000 in
theorem biu(base){L z8 C fv gs nm ps bs}(h:FI L C fv gs nm ps bs)(hb:base<=L)(hz:getC C z8 0=some [fv])(hz8:z8<L){u2 u3 u5 u9 u10 u11 u21 u23 pv l}(hp:Pz C pv l){t}(h0:l[0]?=some t)(hn:bs.length+1<2^21):
 ∃D,evC (gq CT) itW base (.region R10_33 [(1,15)] [10,12,13,21,23,167,168,169,170,171,172,173,174,175,176,177,178,179,180,181,182,183,184,185]) (ja 273 [(2,u2),(3,u3),(5,u5),(8,.ref z8 0 0),(9,u9),(10,u10),(11,u11),(12,pv),(13,.s (.int .i64 gs.length)),(21,u21),(23,u23),(167,.s (.bool true))]) C=some (.nrm,ja 273 [(2,u2),(3,u3),(5,u5),(8,.ref z8 0 0),(9,u9),(11,u11)],D)/\FI L D fv gs nm ps (bs++[⟨⟨t.text.toArray⟩,[]⟩])/\(∀j,j<L->D[j]?=C[j]?)/\C.length<=D.length:=by
 obtain⟨id,g,c0,pv',bv,w,C',e,h1,h2,h3,h4,h5,h6,h7,h8,h9,h10,h11⟩:=h.addB (base:=base) hb ⟨t.text.toArray⟩ hn;subst e
 rw[show c0++[Sb nm,pv',w]=c0++[Sb nm,pv']++[w] by simp]at h10
 obtain⟨D,hD⟩:∃X,C'.set id (.cells g (c0++[Sb nm,pv']++[w]))=X:=⟨_,rfl⟩;rw[hD]at h10;have ix:=idx3 (id:=id) (g:=g) (N:=gs.length);have ld:=att h2 h3;obtain⟨i1,g1,p1,a1,_,_,a2,_⟩:=hp.at h0;have cw:=yz h6
 have tk:(c0++[Sb nm,pv',bv]).take (gs.length*3+2)=c0++[Sb nm,pv']:=by
  rw[afv,rq (by omega),h3]
  simp
 have dr:(c0++[Sb nm,pv',bv]).drop (gs.length*3+2+1)=[]:=mf (by simp;omega)
 have ln:gs.length*3+2+1<=(c0++[Sb nm,pv',bv]).length:=by simp;omega
 have hbi:base<=id:=by omega
 refine⟨D,?_,h10,fun j hj=>by rw[<- hD,ae (by omega),h9 j hj],by rw[<- hD,fe];omega⟩
 simp only[Sb,ow,ah5]at h5 a1 tk dr ln h7 hD;simp only[X10_33,simprocAttr,a09,aa,hz,ix,ld,a1,a2,h5,h6,cw,h7,tk,dr,ln,hbi,hD];have oR:∀(a b c:Nat),V.obj? (.ref a b c)=some (some a):=fun _ _ _=>rfl
 have fin:aux (some (some z8)) (V.appObj bv)=true:=by
  rcases h11 with e|⟨x,e,hx⟩
  .rw[e];rfl
  .rw[e];show(z8 != x)=true;rw[ny];omega
 simp only[zm,simprocAttr,aer,R10_33,jr,ji,aof,AOp.place,AOp.obj,aa,oR,fin]
 try rfl
theorem a0g{C id g n c0 x y}(h:getC C id g=some (c0++[x,y]))(hl:c0.length=n):y5 C false 1 (.ref id g (n+1))=some y:=by
 rw[aav,h]
 have:(c0++[x,y]).drop (n+1)=[y]:=by
  rw[aae,mf (by omega),hl]
  simp
 dsimp only;rw[this];rfl
set_option maxHeartbeats 2000000 in
theorem bis(hI:CT ba3=some (.code aci))(base:Nat){L:Nat}{C fv bv gs nm ps b0 bk}(h:FI L C fv gs nm ps (b0++[bk]))(hb:base<=L)(hL:L<=C.length)(hbv:∃id g c0 pv,fv=.sl id g 0 (gs.length+1) 3/\getC C id g=some (c0++[Sb nm,pv,bv])/\c0.length=gs.length*3)(hbn:b0.length<2^40){u2 u3 u5 u8 u9 u10 u11 u21 u23 pv f26 l}(hp:Pz C pv l)(hln:l.length<2^38)(hf:RdL 2 ay6 C f26 xn){i:Nat}{f}(hfi:xn[i]?=some f)(hil:0<f.2.length)(hN:aua f.1 (f.2.getD 0 ⟨#[]⟩).data.toList (o5 [] l))(hcn:bk.code.length+1<2^21):
 ∃D,evC (gq CT) itW base (.region R10_43 [(2,18)] [12,23,24,25,26,27,224,225,226,227,228,229,230,231,232,233,234,235,236,237,238,239,240,241,242,243,244,245]) (ja 273 [(2,u2),(3,u3),(5,u5),(8,u8),(9,u9),(10,u10),(11,u11),(12,pv),(21,u21),(23,u23),(24,bv),(25,.s (.bool false)),(26,f26),(27,.s (.int .i64 i)),(224,.s (.bool true))]) C=some (.nrm,ja 273 [(2,u2),(3,u3),(5,u5),(8,u8),(9,u9),(10,u10),(11,u11),(21,u21)],D)/\(∀fr,FI L (trim C.length fr D) fv gs nm ps (Go.Proofs.YtbocmenkkjbigaaDoor.addI (b0++[bk]) (aw9 f.1 (f.2.getD 0 ⟨#[]⟩).data.toList (o5 [] l) (aex 0 l))))/\(∀j,j<L->D[j]?=C[j]?)/\C.length<=D.length:=by
 obtain⟨a26,r26,x1,⟨iv,e26,x2,x3⟩,x4,_⟩:=hf.at2 hfi;subst e26;have x5:=x4 C (Ext.refl _);obtain⟨r,C1,c1,c2,c3,c4,c5⟩:=azy hI C.length (aj _) hp hln x2 x3 hil hN;obtain⟨x,hx⟩:∃x,aw9 f.1 (f.2.getD 0 ⟨#[]⟩).data.toList (o5 [] l) (aex 0 l)=x:=⟨_,rfl⟩;rw[hx]at c5 |-;obtain⟨av,lv,er,z1,_,z3,_⟩:=c5 C1 fun _ _ _=>rfl;have oa:=z1.one;have ol:=z3.one;obtain⟨id,g,c0,pv',idB,gB,R0,cv,e,h1,h2,h3,h4,h5,h6,h7,h8⟩:=h.addI (base:=base) hb;obtain⟨id',g',c0',pv2,e',h2',h3'⟩:=hbv;rw[e]at e';obtain⟨p1,p2,_⟩:=V.sl.inj e';subst p1;subst p2;rw[h2]at h2'
 have hbveq:bv=.sl idB gB 0 (b0.length+1) 2:=by
  have hl:=jv List.getLast? (jk h2');simp at hl;exact hl.symm
 subst hbveq;obtain⟨w,C2,j1,j2,j3,j4,j5,j6,j7⟩:=h8 C1 r x (fun j _ hj=>c2.get hj) c2.le c3 c4 c5 hcn;subst er
 rw[show R0++[Sb bk.label,w]=R0++[Sb bk.label]++[w] by simp]at j7
 obtain⟨D,hD⟩:∃X,C2.set idB (.cells gB (R0++[Sb bk.label]++[w]))=X:=⟨_,rfl⟩;rw[hD]at j7;have hl2:∀X,afx X .s (.sl idB gB 0 (b0.length+1) 2)=some (.s (.int .i64 (b0.length+1:Nat))):=fun _=>rfl
 have w1:IntKind.i64.wrap (((b0.length+1:Nat):Int)-1)=((b0.length:Nat):Int):=by rw[IntKind.wrap_i64];omega
 have ix:pg 2 (.sl idB gB 0 (b0.length+1) 2) (.s (.int .i64 (b0.length:Nat)))=some (.ref idB gB (b0.length*2)):=by
  rw[alh,dw ⟨by omega,by omega,rfl⟩,og,ng]
 have ld:=a0g h5 h6;have cw:=yz j2
 have tk:(R0++[Sb bk.label,cv]).take (b0.length*2+1)=R0++[Sb bk.label]:=by
  rw[afv,rq (by omega),h6]
  simp
 have dr:(R0++[Sb bk.label,cv]).drop (b0.length*2+1+1)=[]:=mf (by simp;omega)
 have ln:b0.length*2+1+1<=(R0++[Sb bk.label,cv]).length:=by simp;omega
 have hbi:base<=idB:=by omega
 refine⟨D,?_,j7,fun j hj=>by rw[<- hD,ae (by omega),j5 j hj,c2.get (by omega)],by rw[<- hD,fe];have:=c2.le;omega⟩
 simp only[zw,Sb]at c1 j1 tk dr ln j3 hD;simp only[X10_43,simprocAttr,a09,aa,hl2,w1,ix,ld,x1,x5,c1,oa,ol,j1,j2,cw,j3,tk,dr,ln,hbi,hD];have oR:∀(a b c:Nat),V.obj? (.ref a b c)=some (some a):=fun _ _ _=>rfl
 have fin:aux (V.obj? (.sl idB gB 0 (b0.length+1) 2)) (V.appObj cv)=true:=by
  rcases j6 with e|⟨y,e,_⟩<;>rw[e]<;>rfl
 simp only[zm,simprocAttr,aer,R10_43,jr,ji,aof,AOp.place,AOp.obj,aa,fin]
 try rfl
end
def itB(l:List ByteArray):List (List UInt8):=l.map fun b=>b.data.toList
def aoa{call:o8}{it:zn}{base j a b fr fr1 H H1}(h:evC call it base a fr H=some (.ext j,fr1,H1)):evC call it base (.seq a b) fr H=some (.ext j,fr1,H1):=by simp only[evC,h]
def ajl(l:List Tok.T):List (Nat × List ByteArray)->Nat->Sum (Nat × List ByteArray) Nat
 | [],best=>.inr best
 |f::fs,best=>if((sw l (itB f.2) 0).2&&(sw l (itB f.2) 0).1==l.length)=true then .inl f else ajl l fs (max best (sw l (itB f.2) 0).1)
structure RpT (CT:Nat->Option CFun):Prop where
 F:R4F CT
 wrong:CT ba4=some (.code anh)
 forms:CT bfo=some (.code aqu)
 instr:CT ba3=some (.code aci)
def aue:∀f∈xn,f.2.length<2^40/\0<f.2.length:=by
 intro f hf
 have:xn.all (fun f=>decide (f.2.length<2^40/\0<f.2.length))=true:=by decide +kernel
 exact acb (bq.1 this f hf)
def a4b(a b:Nat):(if((a:Int)<(b:Int))then((b:Nat):Int)else((a:Nat):Int))=((max a b:Nat):Int):=by
 split<;>omega
section
variable {CT:Nat->Option CFun}
set_option maxHeartbeats 2000000 in
def rp_l2(hT:RpT CT)(base:Nat){L:Nat}{C fv bv gs nm ps b0 bk}(h:FI L C fv gs nm ps (b0++[bk]))(hb:base<=L)(hL:L<=C.length)(hbv:∃id g c0 pv,fv=.sl id g 0 (gs.length+1) 3/\getC C id g=some (c0++[Sb nm,pv,bv])/\c0.length=gs.length*3)(hbn:b0.length<2^40){u2 u3 u5 u8 u9 u10 u11 pv f26 l}(hp:Pz C pv l)(hln:l.length<2^38)(hf:RdL 2 ay6 C f26 xn)(hN:∀f∈xn,((sw l (itB f.2) 0).2&&(sw l (itB f.2) 0).1==l.length)=true->aua f.1 (f.2.getD 0 ⟨#[]⟩).data.toList (o5 [] l))(hcn:bk.code.length+1<2^21):∀(fs:List (Nat × List ByteArray)) (i best:Nat),xn.drop i=fs->i<=16->
 match ajl l fs best with
  |.inr be=>itW (evC (gq CT) itW base ad2) [] C.length (ja 273 [(2,u2),(3,u3),(5,u5),(8,u8),(9,u9),(10,u10),(11,u11),(12,pv),(21,.s (.int .i64 best)),(24,bv),(25,.s (.bool false)),(26,f26),(27,.s (.int .i64 i))]) C=some (.ext 6,ja 273 [(2,u2),(3,u3),(5,u5),(8,u8),(9,u9),(10,u10),(11,u11),(12,pv),(21,.s (.int .i64 be)),(24,bv),(25,.s (.bool false)),(26,f26),(27,.s (.int .i64 16)),(205,.s (.bool false))],C)
  |.inl f=>∃D u21,itW (evC (gq CT) itW base ad2) [] C.length (ja 273 [(2,u2),(3,u3),(5,u5),(8,u8),(9,u9),(10,u10),(11,u11),(12,pv),(21,.s (.int .i64 best)),(24,bv),(25,.s (.bool false)),(26,f26),(27,.s (.int .i64 i))]) C=some (.ext 6,ja 273 [(2,u2),(3,u3),(5,u5),(8,u8),(9,u9),(10,u10),(11,u11),(21,u21),(25,.s (.bool true))],D)/\FI L D fv gs nm ps (addI (b0++[bk]) (aw9 f.1 (f.2.getD 0 ⟨#[]⟩).data.toList (o5 [] l) (aex 0 l)))/\(∀j,j<L->D[j]?=C[j]?)/\C.length<=D.length:=by
 have hfl:=hf.len;have f16:xn.length=16:=rfl;rw[f16]at hfl;have hpl:=hp.len
 have hbl:∀X,afx X .s bv=some (.s (.int .i64 (b0.length+1:Nat))):=by
  obtain⟨id,g,c0,pv',e,h2,h3⟩:=hbv;obtain⟨id2,g2,c2,pv2,idB,gB,_,_,e2,_,h4,h5,_⟩:=h.addI (base:=base) hb;rw[e]at e2;obtain⟨p1,p2,_⟩:=V.sl.inj e2;subst p1;subst p2;rw[h2]at h4;have hl:=jv List.getLast? (jk h4);simp at hl;rw[hl];exact fun _=>rfl
 have ht:∀fr,trim C.length fr C=C:=fun fr=>ach rfl
 have hb0:(((b0.length+1:Nat):Int) > 0):=by omega
 intro fs
 induction fs with
 |nil=>
   intro i best hd hi
   have hil:i=16:=by
    have:=jv List.length hd;rw[ig,d9,f16]at this;omega
   subst hil;show itW _ _ _ _ _=_;rw[kg]
   have hlt:¬(((16:Nat):Int)<((16:Nat):Int)):=by omega
   have e16:((16:Nat):Int)=16:=rfl;simp only[abo,aa,Nat.reduceEqDiff,Nat.reduceLT,Nat.reduceLeDiff,Nat.reduceBEq,hfl,e16,qm,ht]
 |cons f fs ih=>
   intro i best hd hi
   have hfi:xn[i]?=some f:=by have:=jv (·[0]?) hd;simp only[jc]at this;exact this
   have hi16:i<16:=(bmk.1 hfi).1
   have hd':xn.drop (i+1)=fs:=by
    have:=jv (List.drop 1) hd
    simpa[qc]using this
   have hmem:=ik hfi;obtain⟨a26,r26,x1,⟨iv,e26,x2,x3⟩,_,x4⟩:=hf.at2 hfi;subst e26;obtain⟨b26,y1,y2⟩:=x4 1 _ rfl;have y3:=y2 C (Ext.refl _)
   have q:=ad3 hT.F base hp (by omega) x2 x3 (aue f hmem).1
   have hlt:((i:Int)<((16:Nat):Int)):=by omega
   have ki:=uf (n:=i) (by omega)
   rw[ajl];obtain⟨k,hk⟩:∃k,(sw l (itB f.2) 0).1=k:=⟨_,rfl⟩;obtain⟨ok,hok⟩:∃ok,(sw l (itB f.2) 0).2=ok:=⟨_,rfl⟩;have hNf:=hN f hmem;rw[hk,hok]at hNf |-
   have q':gq CT (.fn bfp [] []) [iv,pv] base C=some (.tup [.s (.int .i64 k),.s (.bool ok)],C):=by rw[<- hk,<- hok];exact q
   have nb:=ab6 k l.length;by_cases hm:(ok&&k==l.length)=true
   .rw[dw hm];simp only[au]at hm;rw[hm.2]at nb
    obtain⟨D,r1,r2,r3,r4⟩:=bis hT.instr base h hb hL hbv hbn hp hln hf hfi (aue f hmem).2 (hNf (by rw[hm.1,hm.2];rfl)) hcn (u2:=u2) (u3:=u3) (u5:=u5) (u8:=u8) (u9:=u9) (u10:=u10) (u11:=u11) (u21:=.s (.int .i64 best)) (u23:=.s (.int .i64 k))
    refine⟨trim C.length (ja 273 [(2,u2),(3,u3),(5,u5),(8,u8),(9,u9),(10,u10),(11,u11),(21,.s (.int .i64 best)),(25,.s (.bool true))]) D,.s (.int .i64 best),?_,r2 _,fun j hj=>by rw[acr _ _ _ (by omega),r3 j hj],?_⟩
    .rw[kg]
     have e42:evC (gq CT) itW base (.region R10_41 [] [205,208,209,210,211,212,213,214,215,216,217]) (ja 273 [(2,u2),(3,u3),(5,u5),(8,u8),(9,u9),(10,u10),(11,u11),(12,pv),(21,.s (.int .i64 best)),(24,bv),(25,.s (.bool false)),(26,f26),(27,.s (.int .i64 i)),(205,.s (.bool true))]) C=some (.nrm,ja 273 [(2,u2),(3,u3),(5,u5),(8,u8),(9,u9),(10,u10),(11,u11),(12,pv),(21,.s (.int .i64 best)),(22,.s (.bool ok)),(23,.s (.int .i64 k)),(24,bv),(25,.s (.bool false)),(26,f26),(27,.s (.int .i64 i))],C):=by
      simp only[abo,aa,Nat.reduceEqDiff,Nat.reduceLT,Nat.reduceLeDiff,Nat.reduceBEq,x1,y1,y3,q']
     have e40:evC (gq CT) itW base (.seq (.regionE R10_40 [197,198,199,200,201,202,203,204] [205]) (.cond (.t 205) .skip (.exit 6))) (ja 273 [(2,u2),(3,u3),(5,u5),(8,u8),(9,u9),(10,u10),(11,u11),(12,pv),(21,.s (.int .i64 best)),(24,bv),(25,.s (.bool false)),(26,f26),(27,.s (.int .i64 i))]) C=some (.nrm,ja 273 [(2,u2),(3,u3),(5,u5),(8,u8),(9,u9),(10,u10),(11,u11),(12,pv),(21,.s (.int .i64 best)),(24,bv),(25,.s (.bool false)),(26,f26),(27,.s (.int .i64 i)),(205,.s (.bool true))],C):=by
      simp only[abo,aa,Nat.reduceEqDiff,Nat.reduceLT,Nat.reduceLeDiff,Nat.reduceBEq,hfl,hlt,hbl,hb0]
     have e4:evC (gq CT) itW base (.regionE R10_42 [22,218,219,220,221,222,223] [224]) (ja 273 [(2,u2),(3,u3),(5,u5),(8,u8),(9,u9),(10,u10),(11,u11),(12,pv),(21,.s (.int .i64 best)),(22,.s (.bool ok)),(23,.s (.int .i64 k)),(24,bv),(25,.s (.bool false)),(26,f26),(27,.s (.int .i64 i))]) C=some (.nrm,ja 273 [(2,u2),(3,u3),(5,u5),(8,u8),(9,u9),(10,u10),(11,u11),(12,pv),(21,.s (.int .i64 best)),(23,.s (.int .i64 k)),(24,bv),(25,.s (.bool false)),(26,f26),(27,.s (.int .i64 i)),(224,.s (.bool true))],C):=by
      simp only[abo,aa,Nat.reduceEqDiff,Nat.reduceLT,Nat.reduceLeDiff,Nat.reduceBEq,hpl,nb,hm.1]
     have e44:evC (gq CT) itW base (.seq (.regionE R10_44 [] [25]) (.exit 6)) (ja 273 [(2,u2),(3,u3),(5,u5),(8,u8),(9,u9),(10,u10),(11,u11),(21,.s (.int .i64 best))]) D=some (.ext 6,ja 273 [(2,u2),(3,u3),(5,u5),(8,u8),(9,u9),(10,u10),(11,u11),(21,.s (.int .i64 best)),(25,.s (.bool true))],D):=by
      simp only[abo,aa,Nat.reduceEqDiff,Nat.reduceLT,Nat.reduceLeDiff]
     have hall:evC (gq CT) itW base ad2 (ja 273 [(2,u2),(3,u3),(5,u5),(8,u8),(9,u9),(10,u10),(11,u11),(12,pv),(21,.s (.int .i64 best)),(24,bv),(25,.s (.bool false)),(26,f26),(27,.s (.int .i64 i))]) C=some (.ext 6,ja 273 [(2,u2),(3,u3),(5,u5),(8,u8),(9,u9),(10,u10),(11,u11),(21,.s (.int .i64 best)),(25,.s (.bool true))],D):=by
      refine(om e40).trans ?_
      have e7:evC (gq CT) itW base (.seq (.seq (.regionE R10_42 [22,218,219,220,221,222,223] [224]) (.cond (.t 224) (.seq (.region R10_43 [(2,18)] [12,23,24,25,26,27,224,225,226,227,228,229,230,231,232,233,234,235,236,237,238,239,240,241,242,243,244,245]) (.seq (.regionE R10_44 [] [25]) (.exit 6))) .skip)) (.regionE R10_45 [23,224,246,247,248] [21])) (ja 273 [(2,u2),(3,u3),(5,u5),(8,u8),(9,u9),(10,u10),(11,u11),(12,pv),(21,.s (.int .i64 best)),(22,.s (.bool ok)),(23,.s (.int .i64 k)),(24,bv),(25,.s (.bool false)),(26,f26),(27,.s (.int .i64 i))]) C=some (.ext 6,ja 273 [(2,u2),(3,u3),(5,u5),(8,u8),(9,u9),(10,u10),(11,u11),(21,.s (.int .i64 best)),(25,.s (.bool true))],D):=by
       have e8:=(om e4).trans ((ai3 (call:=gq CT) (it:=itW) (base:=base) (c:=.t 224) (a:=.seq (.region R10_43 [(2,18)] [12,23,24,25,26,27,224,225,226,227,228,229,230,231,232,233,234,235,236,237,238,239,240,241,242,243,244,245]) (.seq (.regionE R10_44 [] [25]) (.exit 6))) (b:=.skip) rfl).trans ((om r1).trans e44));exact aoa e8
      exact aoa (ayx (j:=6) (i:=7) rfl ((om e42).trans e7))
     rw[hall];rfl
    .rcases trim_or C.length (ja 273 [(2,u2),(3,u3),(5,u5),(8,u8),(9,u9),(10,u10),(11,u11),(21,.s (.int .i64 best)),(25,.s (.bool true))]) D with e|⟨e,_⟩<;>rw[e]
     .exact r4
     .rw[l5];omega
   .rw[fu hm]
    have hm':(bif ok then(((k:Nat):Int)==((l.length:Nat):Int))else false)=false:=by
     rw[nb];cases ok<;>simp_all
    have q2:=ih (i+1) (max best k) hd' (by omega)
    have mx:=a4b best k;revert q2
    have step:itW (evC (gq CT) itW base ad2) [] C.length (ja 273 [(2,u2),(3,u3),(5,u5),(8,u8),(9,u9),(10,u10),(11,u11),(12,pv),(21,.s (.int .i64 best)),(24,bv),(25,.s (.bool false)),(26,f26),(27,.s (.int .i64 i))]) C=itW (evC (gq CT) itW base ad2) [] C.length (ja 273 [(2,u2),(3,u3),(5,u5),(8,u8),(9,u9),(10,u10),(11,u11),(12,pv),(21,.s (.int .i64 (max best k:Nat))),(24,bv),(25,.s (.bool false)),(26,f26),(27,.s (.int .i64 (i+1:Nat)))]) C:=by
     rw[kg];simp only[abo,aa,Nat.reduceEqDiff,Nat.reduceLT,Nat.reduceLeDiff,Nat.reduceBEq,hfl,hlt,hbl,hb0,x1,y1,y3,q',hpl,hm',ki,ht,mx]
    cases ajl l fs (max best k)with
    |inr be=>intro q2;exact step.trans q2
    |inl f'=>rintro⟨D,u21,q2,q3⟩;exact⟨D,u21,step.trans q2,q3⟩
end
def rpB:ACode:=match zk with
 |.seq _ (.block _ c)=>c
 |_=>.skip
def rpR:ACode:=match rpB with
 |.seq _ (.seq _ (.seq _ (.seq _ (.seq _ r))))=>r
 |_=>.skip
def hdI:List ByteArray:=[⟨#[102,117,110,99]⟩,⟨#[78]⟩,⟨#[40]⟩,⟨#[123]⟩]
def lbI:List ByteArray:=[⟨#[78]⟩,⟨#[58]⟩]
def enI:List ByteArray:=[⟨#[125]⟩]
structure Ms (m0:Nat) (H0:Heap) (L z2 z3 z8 tid tg:Nat) (ts:List Tok.T) (C:Heap) (fv:V):Prop where
 b2:getC C z2 0=some [.s (.slice none 0 0)]
 b3:getC C z3 0=some [.s (.int .i64 0),.s (.int .i64 0)]
 b8:getC C z8 0=some [fv]
 wz:Wz C tid tg ts
 lt:z2<L/\z3<L/\z8<L/\tid<L
 ne:z2≠z3/\z8≠z2/\z8≠z3/\tid≠z8/\tid≠z2/\tid≠z3
 len:L<=C.length
 old:∀j,j<m0->C[j]?=H0[j]?
 m0l:m0<=z2/\m0<=z3/\m0<=z8
def Ms.keep{m0 H0 L z2 z3 z8 tid tg ts C D fv}(h:Ms m0 H0 L z2 z3 z8 tid tg ts C fv)(k:∀j,j<L->D[j]?=C[j]?)(hl:C.length<=D.length):Ms m0 H0 L z2 z3 z8 tid tg ts D fv:=by
 obtain⟨l1,l2,l3,l4⟩:=h.lt
 have g:∀i g c,i<L->getC C i g=some c->getC D i g=some c:=fun i g c hi hc=>by
  unfold getC at hc |-;rw[k i hi];exact hc
 exact⟨g _ _ _ l1 h.b2,g _ _ _ l2 h.b3,g _ _ _ l3 h.b8,g _ _ _ l4 h.wz,h.lt,h.ne,by have:=h.len;omega,fun j hj=>by have:=h.m0l;rw[k j (by omega),h.old j hj],h.m0l⟩
section
variable {CT:Nat->Option CFun} {m0:Nat} {H0:Heap}
set_option maxHeartbeats 2000000 in
theorem biv(base:Nat){L z2 z3 z8 tid tg:Nat}{ts C fv}(hM:Ms m0 H0 L z2 z3 z8 tid tg ts C fv)(hE:alk ts)(hn:ts.length<2^38){a:Nat}{t}(h0:ts[a]?=some t)(h4:t.kind≠4){gN:Nat}(hg:afx C .s fv=some (.s (.int .i64 gN)))(hgN:gN<2^40){w}{n b:Nat}(hnn:age t.line (ts.drop (a+1))+1=n)(hbb:a+n=b):
 ∃C1 h14 h15 h16,evC (gq CT) itW base aar (ja 273 [(2,.ref z2 0 0),(3,.ref z3 0 0),(5,.sl tid tg 0 ts.length 5),(8,.ref z8 0 0),(9,.s (.bool w)),(10,.s (.int .i64 a))]) C=ayd 1 (evC (gq CT) itW base rpR (ja 273 [(2,.ref z2 0 0),(3,.ref z3 0 0),(5,.sl tid tg 0 ts.length 5),(8,.ref z8 0 0),(9,.s (.bool w)),(10,.s (.int .i64 a)),(11,.s (.int .i64 b)),(12,.sl tid tg (a*5) n 5),(13,.s (.int .i64 ((gN:Int)-1))),(14,h14),(15,h15),(16,h16)]) C1)/\Ext C C1/\Rd C1 h14 (hdI.map Sb)/\aak h14/\Rd C1 h15 (lbI.map Sb)/\aak h15/\Rd C1 h16 (enI.map Sb)/\aak h16/\b<ts.length:=by
 have ha:=hE a t h0 h4;have hle:=a4p hE t.line _ (a+1) rfl ha
 have l0:=rp_l0 (CT:=CT) base hM.wz hE (by omega) (u2:=.ref z2 0 0) (u3:=.ref z3 0 0) (u8:=.ref z8 0 0) (u9:=.s (.bool w)) h0 _ (a+1) rfl ha
 rw[show a+1+age t.line (ts.drop (a+1))=b by omega]at l0
 have hp:=hM.wz.all;obtain⟨i1,g1,p1,y1,_,y2,_⟩:=hp.at h0;obtain⟨P1,hP1⟩:∃X,C++[Ob.cells 0 [.s (.string ⟨#[102,117,110,99]⟩),.s (.string ⟨#[78]⟩),.s (.string ⟨#[40]⟩),.s (.string ⟨#[123]⟩)]]=X:=⟨_,rfl⟩;obtain⟨P2,hP2⟩:∃X,P1++[Ob.cells 0 [.s (.string ⟨#[78]⟩),.s (.string ⟨#[58]⟩)]]=X:=⟨_,rfl⟩;obtain⟨P3,hP3⟩:∃X,P2++[Ob.cells 0 [.s (.string ⟨#[125]⟩)]]=X:=⟨_,rfl⟩;have x1:Ext C P1:=hP1▸Ext.app _ _;have x2:Ext P1 P2:=hP2▸Ext.app _ _;have x3:Ext P2 P3:=hP3▸Ext.app _ _
 have e4:(((t.kind:Nat):Int) != 4)=true:=by rw[ny];omega
 have ka:=uf (n:=a) (by omega)
 have ct:a01 5 tid tg 0 ts.length 5 (some (a:Int)) (some (b:Int))=some (.sl tid tg (a*5) n 5):=by
  rw[akv,dw ⟨by omega,by omega,by omega,rfl⟩,og,ng]
  congr 2
  omega
 have wg:IntKind.i64.wrap ((gN:Int)-1)=(gN:Int)-1:=by rw[IntKind.wrap_i64];omega
 refine⟨P3,.sl C.length 0 0 4 1,.sl P1.length 0 0 2 1,.sl P2.length 0 0 1 1,?_,x1.trans (x2.trans x3),abr (jd (hP1▸jl C 0 _) (x2.trans x3)),aee _ _ _ _ _,abr (jd (hP2▸jl P1 0 _) x3),aee _ _ _ _ _,abr (hP3▸jl P2 0 _),aee _ _ _ _ _,by omega⟩
 have hc:∃x y z q r s,aar=.seq x (.block 1 (.seq y (.seq z (.seq q (.seq r (.seq s rpR))))))/\x=.seq (.regionE R10_7 [39,40,41,42,43] [44]) (.cond (.t 44) .skip (.exit 0))/\y=.regionE R10_8 [44,45,46] [11]/\z=.block 2 (.loop [] alu)/\q=.regionE R10_11 [67,70,71,72,73] [12]/\r=.regionE R10_12 [74,75,76,77] [13]/\s=.region R10_13 [] [78,79,80]:=⟨_,_,_,_,_,_,rfl,rfl,rfl,rfl,rfl,rfl,rfl⟩;obtain⟨x,y,z,q,r,s,hc,rfl,rfl,rfl,rfl,rfl,rfl⟩:=hc;rw[hc];obtain⟨R,hR⟩:∃R,rpR=R:=⟨_,rfl⟩;rw[hR];have gb8:=hM.b8;simp only[abo,simprocAttr,aa,y1,y2,e4,ka,l0,ct,gb8,hg,wg,hP1,hP2,hP3]
 try rfl
end
def a8n{l pr cl}:∀(n:Nat) {a:Nat},a<=l.length->(aow l pr cl n a).1<=l.length:=by
 intro n
 induction n with
 |zero=>intro a h;exact h
 |succ n ih=>
   intro a h;rw[aow];by_cases h1:ou l a 1 []=true
   .rw[dw h1];have q1:=ry h1;by_cases h2:(pr&&!ou l (a+1) 3 [58])=true
    .rw[dw h2];exact q1
    .rw[fu h2];by_cases h3:(pr&&!ou l (a+2) 1 [])=true
     .rw[dw h3];simp only[au,not_and,oh,Bool.not_eq_false']at h2 h3;have:=ry (h2 h3.1);show a+2<=_;omega
     .rw[fu h3]
      obtain⟨b,hb⟩:∃b,(if pr=true then a+3 else a+1)=b:=⟨_,rfl⟩
      have hbl:b<=l.length:=by
       rw[<- hb];split
       .rename_i hp;simp only[hp,nk,oh,Bool.not_eq_false']at h3;have:=ry h3;omega
       .omega
      rw[hb];dsimp only;by_cases h4:ou l b 3 cl=true
      .rw[dw h4];have:=ry h4;exact this
      .rw[fu h4];by_cases h5:ou l b 3 [44]=true
       .rw[dw h5];have:=ry h5
        exact ih (by omega)
       .rw[fu h5];exact hbl
   .rw[fu h1];exact h
def a8o{l pr cl a}(h:a<=l.length):(alx l pr cl a).1<=l.length:=by
 unfold alx;split
 .rename_i h1;simp only[au]at h1;exact ry h1.2
 .exact a8n _ h
def an4{l}:∀(is:List (List UInt8)) {a:Nat},a<=l.length->(sw l is a).1<=l.length:=by
 intro is
 induction is with
 |nil=>intro a h;exact h
 |cons it is ih=>
   intro a h;rw[sw];split
   .split
    .rename_i h1;have:=ry h1;exact ih (by omega)
    .exact h
   .split
    .split
     .rename_i h1;have:=ry h1;exact ih (by omega)
     .exact h
    .split
     .dsimp only;split
      .rename_i h1;exact ry h1
      .exact h
     .split
      .split
       .rename_i h1;have:=ry h1
        have B:=a8o (l:=l) (pr:=it==[91]) (cl:=if(it==[91])=true then[93]else[41]) (a:=a+1) (by omega)
        revert B
        generalize alx l (it==[91]) (if(it==[91])=true then[93]else[41]) (a+1)=r
        intro B;split
        .exact ih B
        .exact B
       .exact h
      .split
       .rename_i h1;have:=be9 h1;exact ih (by omega)
       .exact h
def RpE(L z2 z3:Nat)(t:Tok.T)(C1 D:Heap):Prop:=getC D z2 0=some [.s (.slice none 0 0)]/\getC D z3 0=some [.s (.int .i64 t.line),.s (.int .i64 t.col)]/\C1.length<=D.length/\∀j,j<L->j≠z3->D[j]?=C1[j]?
section
variable {CT:Nat->Option CFun} {m0:Nat} {H0:Heap}
def a8j(hT:RpT CT)(base){L z2 z3 z8 tid tg ts C fv}(hM:Ms m0 H0 L z2 z3 z8 tid tg ts C fv)(hb:base<=C.length)(t):∃W D,gq CT (.fn ba4 [] []) [.agg [.s (.int .u8 t.kind),.s (.string ⟨t.text.toArray⟩),.s (.int .i64 t.n),.s (.int .i64 t.line),.s (.int .i64 t.col)]] base C=some (.tup [.agg [.s (.slice none 0 0)],.agg [.s (.int .i64 t.line),.s (.int .i64 t.col)],.s (.int .i64 (if t.kind=4 then 41 else 40:Nat))],W)/\getC W z2 0=some [.s (.slice none 0 0)]/\W.set z2 (.cells 0 [.s (.slice none 0 0)])=W/\getC W z3 0=some [.s (.int .i64 0),.s (.int .i64 0)]/\W.set z3 (.cells 0 [.s (.int .i64 t.line),.s (.int .i64 t.col)])=D/\RpE L z2 z3 t C D:=by
 obtain⟨W,w1,w2⟩:=a1g hT.wrong base hb t;obtain⟨l1,l2,l3,l4⟩:=hM.lt;have g2:=jd hM.b2 w2;have g3:=jd hM.b3 w2;have hl:=hM.len
 refine⟨W,_,w1,g2,ai0 g2,g3,rfl,by rw[xc _ hM.ne.1];exact g2,kz g3 _,by rw[fe];exact w2.le,fun j hj hj2=>by rw[ae (sj hj2),w2.get (by omega)]⟩
set_option maxHeartbeats 2000000 in
def awe(hT:RpT CT)(base){L z2 z3 z8 tid tg ts C fv}(hM:Ms m0 H0 L z2 z3 z8 tid tg ts C fv)(hn:ts.length<2^38)(hb2:base<=z2/\base<=z3){a n b}(hbb:a+n=b)(hbl:b<ts.length){l}(hl:(ts.drop a).take n=l){h14 h15 h16 u13}(hr:Rd C h14 (hdI.map Sb))(hw:aak h14){k ok}(hf:sw l (itB hdI) 0=(k,ok))(hbad:(!ok||decide (k<n))=true){e}(he:ts[a+k]?=some e):
 ∃D,evC (gq CT) itW base rpR (ja 273 [(2,.ref z2 0 0),(3,.ref z3 0 0),(5,.sl tid tg 0 ts.length 5),(8,.ref z8 0 0),(9,.s (.bool false)),(10,.s (.int .i64 a)),(11,.s (.int .i64 b)),(12,.sl tid tg (a*5) n 5),(13,u13),(14,h14),(15,h15),(16,h16)]) C=some (.ret,ja 273 [(2,.ref z2 0 0),(3,.ref z3 0 0),(4,.s (.int .i64 (if e.kind=4 then 41 else 40:Nat)))],D)/\RpE L z2 z3 e C D:=by
 have hp:=hM.wz.pz (a:=a) (n:=n) (by omega)
 rw[hl]at hp
 have hll:l.length=n:=by rw[<- hl,l5,ig];omega
 have q:=ad3 hT.F base hp (by omega) hr hw (by decide)
 rw[show hdI.map (fun b=>b.data.toList)=itB hdI from rfl,hf]at q
 have hk:k<=n:=by have:=an4 (l:=l) (itB hdI) (a:=0) (jo _);rw[hf,hll]at this;exact this
 obtain⟨W,D,w1,w2,w3,w4,w5,w6⟩:=a8j hT base hM (by have:=hM.lt;have:=hM.len;omega) e
 obtain⟨i1,g1,p1,y1,y2,_⟩:=hM.wz.all.at he
 have wk:IntKind.i64.wrap ((a:Int)+(k:Int))=((a+k:Nat):Int):=by rw[IntKind.wrap_i64];omega
 have hpl:∀X,afx X .s (.sl tid tg (a*5) n 5)=some (.s (.int .i64 n)):=fun _=>rfl;have hb2a:=hb2.1;have hb3a:=hb2.2
 have hbad':(bif !ok then true else decide ((k:Int)<(n:Int)))=true:=by
  have e:decide ((k:Int)<(n:Int))=decide (k<n):=by simp
  rw[e];cases ok<;>simp_all
 refine⟨D,?_,w6⟩;cases ok<;>simp only[yj,um,apu,bj9]at hbad'<;>simp only[rpR,simprocAttr,rpB,zk,abo,aa,q,hpl,hbad',wk,y1,y2,w1,w2,w3,w4,w5,hb2a,hb3a,lq]
end
section
variable {CT:Nat->Option CFun} {m0:Nat} {H0:Heap}
set_option maxHeartbeats 2000000 in
def azw(hT:RpT CT)(base){L z2 z3 z8 tid tg ts C fv}(hM:Ms m0 H0 L z2 z3 z8 tid tg ts C fv)(hn:ts.length<2^38)(hb8:base<=z8){gs}(hG:GS L C fv gs)(hgn:gs.length+1<2^21){a n b}(hbb:a+n=b)(hbl:b<ts.length){l}(hl:(ts.drop a).take n=l){h14 h15 h16 u13}(hr:Rd C h14 (hdI.map Sb))(hw:aak h14){k ok}(hf:sw l (itB hdI) 0=(k,ok))(hok:ok=true/\¬k<n){e}(he:l[1]?=some e)(hn2:2<=n):
 ∃w D,ayd 1 (evC (gq CT) itW base rpR (ja 273 [(2,.ref z2 0 0),(3,.ref z3 0 0),(5,.sl tid tg 0 ts.length 5),(8,.ref z8 0 0),(9,.s (.bool false)),(10,.s (.int .i64 a)),(11,.s (.int .i64 b)),(12,.sl tid tg (a*5) n 5),(13,u13),(14,h14),(15,h15),(16,h16)]) C)=some (.nrm,ja 273 [(2,.ref z2 0 0),(3,.ref z3 0 0),(5,.sl tid tg 0 ts.length 5),(8,.ref z8 0 0),(9,.s (.bool true)),(10,.s (.int .i64 b))],D)/\FI L D w gs ⟨e.text.toArray⟩ (o5 [] (l.drop 2)) []/\Ms m0 H0 L z2 z3 z8 tid tg ts D w:=by
 have hp:=hM.wz.pz (a:=a) (n:=n) (by omega)
 rw[hl]at hp
 have hll:l.length=n:=by rw[<- hl,l5,ig];omega
 have q:=ad3 hT.F base hp (by omega) hr hw (by decide)
 rw[show hdI.map (fun b=>b.data.toList)=itB hdI from rfl,hf,hok.1]at q
 have hkn:¬((k:Int)<(n:Int)):=by omega
 have hpl:∀X,afx X .s (.sl tid tg (a*5) n 5)=some (.s (.int .i64 n)):=fun _=>rfl;obtain⟨i1,g1,p1,y1,_,_,y2,_⟩:=hp.at he;have c1:((1:Nat):Int)=1:=rfl;rw[c1]at y1;obtain⟨nm,hnm⟩:∃nm:ByteArray,⟨e.text.toArray⟩=nm:=⟨_,rfl⟩;rw[hnm]at y2 |-;have hlen:=hM.len;have hlt:=hM.lt;obtain⟨Z,hZ⟩:∃X,C++[Ob.cells 0 [.s (.string ⟨#[]⟩),.s (.slice none 0 0),.s (.slice none 0 0)]]=X:=⟨_,rfl⟩;obtain⟨C2,hC2⟩:∃X,C++[Ob.cells 0 [.s (.string nm),.s (.slice none 0 0),.s (.slice none 0 0)]]=X:=⟨_,rfl⟩;have gZ:getC Z C.length 0=some [.s (.string ⟨#[]⟩),.s (.slice none 0 0),.s (.slice none 0 0)]:=hZ▸jl C 0 _
 have sZ:Z.set C.length (.cells 0 [.s (.string nm),.s (.slice none 0 0),.s (.slice none 0 0)])=C2:=by rw[<- hZ,uw,hC2]
 have l2:C2.length=C.length+1:=by rw[<- hC2,kw]
 have x2:Ext C C2:=hC2▸Ext.app _ _
 have hbz:base<=C.length:=by omega
 obtain⟨pv,D,e1,e2⟩:=rp_l1 (CT:=CT) base hbz (aj _) hp (by omega) (u2:=.ref z2 0 0) (u3:=.ref z3 0 0) (u5:=.sl tid tg 0 ts.length 5) (u8:=.ref z8 0 0) (u11:=.s (.int .i64 b)) (l.drop 2) 2 [] ow C2 rfl (by omega) (jo _) ⟨hC2▸jl C 0 _,uj.start _ _ _,by omega,fun i hi=>x2.get hi,fun _=>rfl⟩
 have hD:=e2.len;have hpo:=e2.row.rd.one
 have hpsl:(o5 [] (l.drop 2)).length<2^63:=by
  have:=apk (l.drop 2) [];rw[ig,d9]at this;omega
 obtain⟨w,D2,f1,f2,f3,f4,f5⟩:=FI.start (base:=base) (D:=D) (nm:=nm) (ps:=o5 [] (l.drop 2)) hG (by omega) hlen (fun j _ hj=>e2.old j hj) (by omega) hpo (fun H' hh=>by
  have hv:uj (C.length+1) 1 H' pv (yu (o5 [] (l.drop 2))):=e2.row.keep fun i g n e=>by
   have h1:=e2.row.lt i g n e
   have h2:C.length+1<=i:=by have hrw:=e2.row;subst e;exact tu hrw
   exact hh i (by omega) h1
  exact⟨(adr hv).rd,asb.wide2 (adr hv)⟩) hpsl hgn hlt.2.2.1
 have kD:∀j,j<L->D2[j]?=C[j]?:=fun j hj=>by rw[f4 j hj,e2.old j (by omega)]
 have g8:getC D z8 0=some [fv]:=by
  have:=hM.b8;unfold getC at this |-
  rw[e2.old z8 (by omega)]
  exact this
 have g82:getC D2 z8 0=some [fv]:=by
  have:=hM.b8;unfold getC at this |-;rw[kD z8 hlt.2.2.1];exact this
 obtain⟨E,hE⟩:∃X,D2.set z8 (.cells 0 [w])=X:=⟨_,rfl⟩;have f6:=f5 (.cells 0 [w]);rw[hE]at f6
 have kE:∀j,j≠z8->E[j]?=D2[j]?:=fun j hj=>by rw[<- hE,ae (sj hj)]
 have lE:E.length=D2.length:=by rw[<- hE,fe]
 have gE:∀i g c,i<L->i≠z8->getC C i g=some c->getC E i g=some c:=fun i g c hi hi2 hc=>by
  unfold getC at hc |-;rw[kE i hi2,kD i hi];exact hc
 refine⟨w,E,?_,f6,⟨gE _ _ _ hlt.1 (sj hM.ne.2.1) hM.b2,gE _ _ _ hlt.2.1 (sj hM.ne.2.2.1) hM.b3,hE▸kz g82 _,gE _ _ _ hlt.2.2.2 hM.ne.2.2.2.1 hM.wz,hlt,hM.ne,by omega,fun j hj=>by have:=hM.m0l;rw[kE j (by omega),kD j (by omega),hM.old j hj],hM.m0l⟩⟩
 have hvo:fv.one=true:=by
  obtain⟨R,w1,_⟩:=hG.rows;exact w1.rd.one
 have bx:=e2.box;have cw:=yz f2;have cp:=yz hpo;simp only[Sb,ow]at f1;simp only[hll]at e1;have z2':((2:Nat):Int)=2:=rfl;rw[z2']at e1;simp only[rpR,simprocAttr,rpB,zk,abo,aa,q,hpl,hkn,y1,y2,hZ,gZ,sZ,hbz,l2,e1,g8,bx,hpo,f1,f2,cw,g82,hE,hb8,lq]
set_option maxHeartbeats 2000000 in
def bix(hT:RpT CT)(base){L z2 z3 z8 tid tg ts C fv}(hM:Ms m0 H0 L z2 z3 z8 tid tg ts C fv)(hn:ts.length<2^38){a n b}(hbb:a+n=b)(hbl:b<ts.length){l}(hl:(ts.drop a).take n=l){h14 h15 h16 u13}(hr:Rd C h16 (enI.map Sb))(hw:aak h16){k ok}(hf:sw l (itB enI) 0=(k,ok))(hok:(ok&&k==n)=true):
 ayd 1 (evC (gq CT) itW base rpR (ja 273 [(2,.ref z2 0 0),(3,.ref z3 0 0),(5,.sl tid tg 0 ts.length 5),(8,.ref z8 0 0),(9,.s (.bool true)),(10,.s (.int .i64 a)),(11,.s (.int .i64 b)),(12,.sl tid tg (a*5) n 5),(13,u13),(14,h14),(15,h15),(16,h16)]) C)=some (.nrm,ja 273 [(2,.ref z2 0 0),(3,.ref z3 0 0),(5,.sl tid tg 0 ts.length 5),(8,.ref z8 0 0),(9,.s (.bool false)),(10,.s (.int .i64 b))],C):=by
 have hp:=hM.wz.pz (a:=a) (n:=n) (by omega)
 rw[hl]at hp
 have hll:l.length=n:=by rw[<- hl,l5,ig];omega
 have q:=ad3 hT.F base hp (by omega) hr hw (by decide)
 rw[show enI.map (fun b=>b.data.toList)=itB enI from rfl,hf]at q;simp only[au]at hok;rw[hok.1]at q;have nb:=ab6 k n;rw[hok.2]at nb;have hpl:∀X,afx X .s (.sl tid tg (a*5) n 5)=some (.s (.int .i64 n)):=fun _=>rfl;simp only[rpR,simprocAttr,rpB,zk,abo,aa,q,hpl,nb]
end
theorem FI.bv{L C fv gs nm ps bs}(h:FI L C fv gs nm ps bs):∃id g c0 pv bv,fv=.sl id g 0 (gs.length+1) 3/\getC C id g=some (c0++[Sb nm,pv,bv])/\c0.length=gs.length*3/\∀X,afx X .s bv=some (.s (.int .i64 bs.length)):=by
 obtain⟨C0,id,g,R,pv,bv,K,e,h1,h2,h3,h4,h5,h6,h7,h8,h9,h10,h11,h12,h13⟩:=h.ex;obtain⟨RB,w1,w2,_⟩:=h13.rows
 refine⟨id,g,R.flatten,pv,bv,e,h4,by rw[ac5 R h5,h6],fun X=>?_⟩
 obtain⟨_,⟨e1,e2⟩|⟨i,g',e2,_⟩⟩:=w1
 .rw[e1]at w2;rw[e2,<- w2];rfl
 .rw[e2,<- w2];rfl
section
variable {CT:Nat->Option CFun} {m0:Nat} {H0:Heap}
set_option maxHeartbeats 2000000 in
def a8k(hT:RpT CT)(base){L z2 z3 z8 tid tg ts C fv}(hM:Ms m0 H0 L z2 z3 z8 tid tg ts C fv)(hn:ts.length<2^38)(hbL:base<=L){gs nm ps bs}(hF:FI L C fv gs nm ps bs)(hbs:bs.length+1<2^21){a n b}(hbb:a+n=b)(hbl:b<ts.length){l}(hl:(ts.drop a).take n=l){h14 h15 h16}(hr:Rd C h16 (enI.map Sb))(hw:aak h16)(hr2:Rd C h15 (lbI.map Sb))(hw2:aak h15){k0 k1 ok0 ok1}(hf:sw l (itB enI) 0=(k0,ok0))(hno:(ok0&&k0==n)=false)(hf1:sw l (itB lbI) 0=(k1,ok1))(hok:(ok1&&k1==n)=true){t}(h0:l[0]?=some t):
 ∃D,ayd 1 (evC (gq CT) itW base rpR (ja 273 [(2,.ref z2 0 0),(3,.ref z3 0 0),(5,.sl tid tg 0 ts.length 5),(8,.ref z8 0 0),(9,.s (.bool true)),(10,.s (.int .i64 a)),(11,.s (.int .i64 b)),(12,.sl tid tg (a*5) n 5),(13,.s (.int .i64 gs.length)),(14,h14),(15,h15),(16,h16)]) C)=some (.nrm,ja 273 [(2,.ref z2 0 0),(3,.ref z3 0 0),(5,.sl tid tg 0 ts.length 5),(8,.ref z8 0 0),(9,.s (.bool true)),(10,.s (.int .i64 b))],D)/\FI L D fv gs nm ps (bs++[⟨⟨t.text.toArray⟩,[]⟩])/\Ms m0 H0 L z2 z3 z8 tid tg ts D fv:=by
 have hp:=hM.wz.pz (a:=a) (n:=n) (by omega)
 rw[hl]at hp
 have hll:l.length=n:=by rw[<- hl,l5,ig];omega
 have q:=ad3 hT.F base hp (by omega) hr hw (by decide)
 rw[show enI.map (fun b=>b.data.toList)=itB enI from rfl,hf]at q
 have q1:=ad3 hT.F base hp (by omega) hr2 hw2 (by decide)
 rw[show lbI.map (fun b=>b.data.toList)=itB lbI from rfl,hf1]at q1;simp only[au]at hok;rw[hok.1]at q1;have nb:=ab6 k1 n;rw[hok.2]at nb;have nb0:=ab6 k0 n
 have hno':(bif ok0 then(((k0:Nat):Int)==((n:Nat):Int))else false)=false:=by
  rw[nb0];cases ok0<;>simp_all
 have hpl:∀X,afx X .s (.sl tid tg (a*5) n 5)=some (.s (.int .i64 n)):=fun _=>rfl;obtain⟨D,e33,f1,f2,f3⟩:=biu (CT:=CT) base hF hbL hM.b8 hM.lt.2.2.1 (u2:=.ref z2 0 0) (u3:=.ref z3 0 0) (u5:=.sl tid tg 0 ts.length 5) (u9:=.s (.bool true)) (u10:=.s (.int .i64 a)) (u11:=.s (.int .i64 b)) (u21:=.s (.int .i64 k0)) (u23:=.s (.int .i64 k1)) hp h0 hbs;refine⟨D,?_,f1,hM.keep f2 f3⟩;simp only[rpR,simprocAttr,rpB,zk,abo,aa,q,q1,hpl,nb,hno',e33]
def biw(base){C bv}(hbl:∀X,afx X .s bv=some (.s (.int .i64 ((0:Nat):Int)))){u2 u3 u5 u8 u9 u10 u11 pv f26 u21}(hf:RdL 2 ay6 C f26 xn):
 itW (evC (gq CT) itW base ad2) [] C.length (ja 273 [(2,u2),(3,u3),(5,u5),(8,u8),(9,u9),(10,u10),(11,u11),(12,pv),(21,u21),(24,bv),(25,.s (.bool false)),(26,f26),(27,.s (.int .i64 0))]) C=some (.ext 6,ja 273 [(2,u2),(3,u3),(5,u5),(8,u8),(9,u9),(10,u10),(11,u11),(12,pv),(21,u21),(24,bv),(25,.s (.bool false)),(26,f26),(27,.s (.int .i64 0)),(205,.s (.bool false))],C):=by
 have hfl:=hf.len;rw[show xn.length=16 from rfl]at hfl;have ht:∀fr,trim C.length fr C=C:=fun fr=>ach rfl
 have hlt:((0:Int)<((16:Nat):Int)):=by omega
 have h0:¬(((0:Nat):Int) > 0):=by omega
 rw[kg];simp only[abo,simprocAttr,aa,hfl,hlt,hbl,gt_iff_lt,qm,ht]
set_option maxHeartbeats 2000000 in
def a8l(hT:RpT CT)(base:Nat){L z2 z3 z8 tid tg:Nat}{ts C fv}(hM:Ms m0 H0 L z2 z3 z8 tid tg ts C fv)(hn:ts.length<2^38)(hb2:base<=z2/\base<=z3)(hbL:base<=L){gs nm ps bs}(hF:FI L C fv gs nm ps bs)(hbs:bs.length<2^21)(hcn:∀b∈bs,b.code.length+1<2^21){a n b:Nat}(hbb:a+n=b)(hbl:b<ts.length){l}(hl:(ts.drop a).take n=l){h14 h15 h16}(hr:Rd C h16 (enI.map Sb))(hw:aak h16)(hr2:Rd C h15 (lbI.map Sb))(hw2:aak h15){k0 k1:Nat}{ok0 ok1}(hf:sw l (itB enI) 0=(k0,ok0))(hno:(ok0&&k0==n)=false)(hf1:sw l (itB lbI) 0=(k1,ok1))(hno1:(ok1&&k1==n)=false)(hN:∀f∈xn,((sw l (itB f.2) 0).2&&(sw l (itB f.2) 0).1==l.length)=true->aua f.1 (f.2.getD 0 ⟨#[]⟩).data.toList (o5 [] l)):
 match(if bs=[]then .inr (max k0 k1)else ajl l xn (max k0 k1))with
  |.inl f=>∃D,ayd 1 (evC (gq CT) itW base rpR (ja 273 [(2,.ref z2 0 0),(3,.ref z3 0 0),(5,.sl tid tg 0 ts.length 5),(8,.ref z8 0 0),(9,.s (.bool true)),(10,.s (.int .i64 a)),(11,.s (.int .i64 b)),(12,.sl tid tg (a*5) n 5),(13,.s (.int .i64 gs.length)),(14,h14),(15,h15),(16,h16)]) C)=some (.nrm,ja 273 [(2,.ref z2 0 0),(3,.ref z3 0 0),(5,.sl tid tg 0 ts.length 5),(8,.ref z8 0 0),(9,.s (.bool true)),(10,.s (.int .i64 b))],D)/\FI L D fv gs nm ps (addI bs (aw9 f.1 (f.2.getD 0 ⟨#[]⟩).data.toList (o5 [] l) (aex 0 l)))/\Ms m0 H0 L z2 z3 z8 tid tg ts D fv
  |.inr be=>∀e,ts[a+be]?=some e->a+be<2^39->∃D C2,ayd 1 (evC (gq CT) itW base rpR (ja 273 [(2,.ref z2 0 0),(3,.ref z3 0 0),(5,.sl tid tg 0 ts.length 5),(8,.ref z8 0 0),(9,.s (.bool true)),(10,.s (.int .i64 a)),(11,.s (.int .i64 b)),(12,.sl tid tg (a*5) n 5),(13,.s (.int .i64 gs.length)),(14,h14),(15,h15),(16,h16)]) C)=some (.ret,ja 273 [(2,.ref z2 0 0),(3,.ref z3 0 0),(4,.s (.int .i64 (if e.kind=4 then 41 else 40:Nat)))],D)/\Ext C C2/\RpE L z2 z3 e C2 D:=by
 have hp:=hM.wz.pz (a:=a) (n:=n) (by omega)
 rw[hl]at hp
 have hll:l.length=n:=by rw[<- hl,l5,ig];omega
 have q:=ad3 hT.F base hp (by omega) hr hw (by decide)
 rw[show enI.map (fun b=>b.data.toList)=itB enI from rfl,hf]at q
 have q1:=ad3 hT.F base hp (by omega) hr2 hw2 (by decide)
 rw[show lbI.map (fun b=>b.data.toList)=itB lbI from rfl,hf1]at q1;have nb:=ab6 k1 n;have nb0:=ab6 k0 n
 have hno':(bif ok0 then(((k0:Nat):Int)==((n:Nat):Int))else false)=false:=by
  rw[nb0];cases ok0<;>simp_all
 have hno1':(bif ok1 then(((k1:Nat):Int)==((n:Nat):Int))else false)=false:=by
  rw[nb];cases ok1<;>simp_all
 have hpl:∀X,afx X .s (.sl tid tg (a*5) n 5)=some (.s (.int .i64 n)):=fun _=>rfl;have hlen:=hM.len
 obtain⟨f26,C2,e38,x38,hfr⟩:=a5m hT.forms base (A:=C) (by omega)
 have hy:=x38.le
 have hM2:Ms m0 H0 L z2 z3 z8 tid tg ts C2 fv:=hM.keep (fun j hj=>x38.get (by omega)) hy
 have hF2:FI L C2 fv gs nm ps bs:=hF.keep (fun j _ hj=>x38.get hj) hy;have hp2:=hp.ext x38;obtain⟨id,g,c0,pv',bv,e,g1,g2,g3⟩:=hF.bv;have g1':=jd g1 x38;have ld:=att g1 g2;have ix:=idx3 (id:=id) (g:=g) (N:=gs.length);have mx:=a4b k0 k1;have gb8:=hM.b8;rw[e]at gb8;have hb2a:=hb2.1;have hb3a:=hb2.2;by_cases h0:bs=[]
 .rw[dw h0];intro e' he' hlim;subst h0;have l2:=biw (CT:=CT) base (C:=C2) (u2:=.ref z2 0 0) (u3:=.ref z3 0 0) (u5:=.sl tid tg 0 ts.length 5) (u8:=.ref z8 0 0) (u9:=.s (.bool true)) (u10:=.s (.int .i64 a)) (u11:=.s (.int .i64 b)) (pv:=.sl tid tg (a*5) n 5) (u21:=.s (.int .i64 (max k0 k1:Nat))) g3 hfr
  obtain⟨W,D,w1,w2,w3,w4,w5,w6⟩:=a8j hT base hM2 (by omega) e'
  obtain⟨i1,gg1,p1,y1,y2,_⟩:=hM2.wz.all.at he'
  have wk:IntKind.i64.wrap ((a:Int)+((max k0 k1:Nat):Int))=((a+max k0 k1:Nat):Int):=by rw[IntKind.wrap_i64];omega
  refine⟨D,C2,?_,x38,w6⟩;simp only[rpR,simprocAttr,rpB,zk,abo,aa,q,q1,hpl,hno',hno1',mx,gb8,ix,ld,e38,l2,wk,y1,y2,w1,w2,w3,w4,w5,hb2a,hb3a,lq]
 .rw[fu h0];obtain⟨b0,bk,rfl⟩:∃b0 bk,bs=b0++[bk]:=⟨bs.dropLast,bs.getLast h0,(ag2 h0).symm⟩
  have l2:=rp_l2 (CT:=CT) hT base hF2 hbL (by omega) ⟨id,g,c0,pv',e,g1',g2⟩ (by rw[gm]at hbs;omega) hp2 (by omega) hfr hN (hcn bk (by simp)) xn 0 (max k0 k1) rfl (by omega) (u2:=.ref z2 0 0) (u3:=.ref z3 0 0) (u5:=.sl tid tg 0 ts.length 5) (u8:=.ref z8 0 0) (u9:=.s (.bool true)) (u10:=.s (.int .i64 a)) (u11:=.s (.int .i64 b))
  revert l2;cases ajl l xn (max k0 k1)with
  |inl f=>
    rintro⟨D,u21,r1,r2,r3,r4⟩;refine⟨D,?_,r2,hM2.keep r3 r4⟩;rw[ah5]at r1;simp only[rpR,simprocAttr,rpB,zk,abo,aa,q,q1,hpl,hno',hno1',mx,gb8,ix,ld,e38,r1]
  |inr be=>
    intro r1 e' he' hlim;replace r1:itW _ _ _ _ _=_:=r1;rw[ah5]at r1
    obtain⟨W,D,w1,w2,w3,w4,w5,w6⟩:=a8j hT base hM2 (by omega) e'
    obtain⟨i1,gg1,p1,y1,y2,_⟩:=hM2.wz.all.at he'
    have wk:IntKind.i64.wrap ((a:Int)+((be:Nat):Int))=((a+be:Nat):Int):=by rw[IntKind.wrap_i64];omega
    refine⟨D,C2,?_,x38,w6⟩;simp only[rpR,simprocAttr,rpB,zk,abo,aa,q,q1,hpl,hno',hno1',mx,gb8,ix,ld,e38,r1,wk,y1,y2,w1,w2,w3,w4,w5,hb2a,hb3a,lq]
end
def a08(ts:List Tok.T)(gs:List FunD)(cur:Option FunD)(a:Nat)(t:Tok.T):Except Nat (List FunD × Option FunD × Nat):=
 let n:=age t.line (ts.drop (a+1))+1
 let l:=(ts.drop a).take n
 match cur with
 |none=>if(!(sw l (itB hdI) 0).2||decide ((sw l (itB hdI) 0).1<n))=true then .error (a+(sw l (itB hdI) 0).1)else .ok (gs,some ⟨⟨(l.getD 1 tkE).text.toArray⟩,o5 [] (l.drop 2),[]⟩,a+n)
 |some f=>
   if((sw l (itB enI) 0).2&&(sw l (itB enI) 0).1==n)=true then .ok (gs++[f],none,a+n)
   else if((sw l (itB lbI) 0).2&&(sw l (itB lbI) 0).1==n)=true then .ok (gs,some ⟨f.name,f.ps,f.blocks++[⟨⟨(l.getD 0 tkE).text.toArray⟩,[]⟩]⟩,a+n)
   else match(if f.blocks=[]then .inr (max (sw l (itB enI) 0).1 (sw l (itB lbI) 0).1)else ajl l xn (max (sw l (itB enI) 0).1 (sw l (itB lbI) 0).1))with
    |.inl g=>.ok (gs,some ⟨f.name,f.ps,addI f.blocks (aw9 g.1 (g.2.getD 0 ⟨#[]⟩).data.toList (o5 [] l) (aex 0 l))⟩,a+n)
    |.inr be=>.error (a+be)
def ajh(ts:List Tok.T):Nat->List FunD->Option FunD->Nat->Except Nat (List FunD)
 |0,_,_,a=>.error a
 |n+1,gs,cur,a=>
   if(ts.getD a tkE).kind=4 then(if cur.isSome=true then .error a else .ok gs)
   else match a08 ts gs cur a (ts.getD a tkE)with
    |.error e=>.error e
    |.ok (gs',cur',b)=>ajh ts n gs' cur' b
def a7g(l:List Tok.T):Prop:=∀f∈xn,((sw l (itB f.2) 0).2&&(sw l (itB f.2) 0).1==l.length)=true->aua f.1 (f.2.getD 0 ⟨#[]⟩).data.toList (o5 [] l)
def ami(ts:List Tok.T):Prop:=∀(a:Nat) (t:Tok.T),ts[a]?=some t->t.kind≠4->a7g ((ts.drop a).take (age t.line (ts.drop (a+1))+1))
def ap6(l:List Tok.T):Prop:=(sw l (itB hdI) 0).2=true->2<=l.length
def bdz{l}:∀(fs:List (Nat × List ByteArray)) {b be:Nat},ajl l fs b=.inr be->b<=l.length->be<=l.length:=by
 intro fs
 induction fs with
 |nil=>intro b be h hb;cases h;exact hb
 |cons f fs ih=>
   intro b be h hb;rw[ajl]at h;split at h
   .cases h
   .have:=an4 (l:=l) (itB f.2) (a:=0) (jo _)
    exact ih h (by omega)
def Inv(L:Nat)(C:Heap)(fv:V)(gs:List FunD):Option FunD->Prop
 |none=>GS L C fv gs
 |some f=>FI L C fv gs f.name f.ps f.blocks
def curB(cur:Option FunD)(a:Nat):Prop:=∀f,cur=some f->f.blocks.length<=a/\∀b∈f.blocks,b.code.length<=a
def Inv.tr{L z8 C fv gs cur}(h:Inv L C fv gs cur)(hz:z8<L)(h8:getC C z8 0=some [fv])(fr):Inv L (trim L fr C) fv gs cur:=by
 rcases ae2 L fr C with e|⟨_,_,e⟩
 .rw[e];exact h
 .have key:∀i g n,fv=.sl i g 0 n 3->L<=i->False:=fun i g n e1 h1=>by
   have:=e z8 0 _ hz h8 i g 0 n 3 (by rw[e1];simp)
   omega
  cases cur with
  |none=>
    obtain⟨R,w1,w2,w3⟩:=GS.rows h
    obtain⟨_,⟨e1,e2⟩|⟨i,g,e2,_,k⟩⟩:=w1
    .rw[e1]at w2
     have:gs=[]:=jb (by rw[<- w2];rfl)
     subst this;rw[e2];exact GS.start _ _
    .exact(key i g _ e2 k).elim
  |some f=>
    obtain⟨C0,id,g,R,pv,bv,K,e1,h1,_⟩:=FI.ex h;exact(key id g _ e1 h1).elim
section
variable {CT:Nat->Option CFun} {m0:Nat} {H0:Heap}
def Inv.len{L C fv gs cur}(h:Inv L C fv gs cur):∃gN,afx C .s fv=some (.s (.int .i64 (gN:Nat)))/\gN<=gs.length+1/\(cur.isSome=true->gN=gs.length+1):=by
 cases cur with
 |none=>
   obtain⟨R,w1,w2,w3⟩:=GS.rows h;have:=w1.rd.len
   exact⟨R.length,this,by omega,fun h=>by cases h⟩
 |some f=>
   obtain⟨C0,id,g,R,pv,bv,K,e1,h1,_⟩:=FI.ex h
   exact⟨gs.length+1,by rw[e1];rfl,aj _,fun _=>rfl⟩
set_option maxHeartbeats 2000000 in
def bd7(hT:RpT CT)(base){L z2 z3 z8 tid tg ts C fv}(hM:Ms m0 H0 L z2 z3 z8 tid tg ts C fv)(hE:alk ts)(hn:ts.length<2^20)(hb:base<=z2/\base<=z3/\base<=z8){gs cur}(hI:Inv L C fv gs cur){a t}(h0:ts[a]?=some t)(h4:t.kind≠4)(hga:gs.length<=a)(hca:curB cur a)(hFO:ami ts)(hHO:∀l,ap6 l):
 match a08 ts gs cur a t with
  |.error e=>∃w,ts[e]?=some w/\∃D,evC (gq CT) itW base aar (ja 273 [(2,.ref z2 0 0),(3,.ref z3 0 0),(5,.sl tid tg 0 ts.length 5),(8,.ref z8 0 0),(9,.s (.bool cur.isSome)),(10,.s (.int .i64 a))]) C=some (.ret,ja 273 [(2,.ref z2 0 0),(3,.ref z3 0 0),(4,.s (.int .i64 (if w.kind=4 then 41 else 40:Nat)))],D)/\RpE L z2 z3 w C D
  |.ok (gs',cur',b)=>a<b/\b<ts.length/\gs'.length<=b/\curB cur' b/\∃fv' D,evC (gq CT) itW base aar (ja 273 [(2,.ref z2 0 0),(3,.ref z3 0 0),(5,.sl tid tg 0 ts.length 5),(8,.ref z8 0 0),(9,.s (.bool cur.isSome)),(10,.s (.int .i64 a))]) C=some (.nrm,ja 273 [(2,.ref z2 0 0),(3,.ref z3 0 0),(5,.sl tid tg 0 ts.length 5),(8,.ref z8 0 0),(9,.s (.bool cur'.isSome)),(10,.s (.int .i64 b))],D)/\Inv L D fv' gs' cur'/\Ms m0 H0 L z2 z3 z8 tid tg ts D fv':=by
 obtain⟨n,hnn⟩:∃n,age t.line (ts.drop (a+1))+1=n:=⟨_,rfl⟩;obtain⟨b,hbb⟩:∃b,a+n=b:=⟨_,rfl⟩;obtain⟨l,hl⟩:∃l,(ts.drop a).take n=l:=⟨_,rfl⟩;obtain⟨gN,g1,g2,g3⟩:=hI.len;have hal:=(bmk.1 h0).1
 obtain⟨C1,h14,h15,h16,e1,x1,r14,w14,r15,w15,r16,w16,hbl⟩:=biv (CT:=CT) base hM hE (by omega) h0 h4 g1 (by omega) (w:=cur.isSome) hnn hbb
 have hM1:Ms m0 H0 L z2 z3 z8 tid tg ts C1 fv:=hM.keep (fun j hj=>x1.get (by have:=hM.len;omega)) x1.le
 have hll:l.length=n:=by rw[<- hl,l5,ig];omega
 have h1n:1<=n:=by omega
 have rpe:∀{w:Tok.T} {C2 D:Heap},Ext C C2->RpE L z2 z3 w C2 D->RpE L z2 z3 w C D:=fun {w C2 D} x ⟨p1,p2,p3,p4⟩=>⟨p1,p2,by have:=x.le;omega,fun j hj hj2=>by rw[p4 j hj hj2,x.get (by have:=hM.len;omega)]⟩
 unfold a08;rw[hnn];dsimp only;rw[hl,hbb];cases cur with
 |none=>
   dsimp only;obtain⟨⟨k,ok⟩,hk⟩:∃p,sw l (itB hdI) 0=p:=⟨_,rfl⟩;have hle:=an4 (l:=l) (itB hdI) (a:=0) (jo _);have hH:=hHO l;unfold ap6 at hH;rw[hk]at hle hH |-;dsimp only at hle hH |-
   by_cases hbad:(!ok||decide (k<n))=true
   .rw[dw hbad]
    obtain⟨w,hw⟩:∃w,ts[a+k]?=some w:=⟨_,af (by omega)⟩
    obtain⟨D,d1,d2⟩:=awe hT base hM1 (by omega) ⟨hb.1,hb.2.1⟩ hbb hbl hl r14 w14 hk hbad hw (h15:=h15) (h16:=h16) (u13:=.s (.int .i64 ((gN:Int)-1)))
    refine⟨w,hw,D,?_,rpe x1 d2⟩;rw[e1,show(none:Option FunD).isSome=false from rfl,d1];rfl
   .rw[fu hbad]
    have hok:ok=true/\¬k<n:=by
     simp only[kr,xy,lm,bjj,a1c]at hbad;exact hbad
    have h2n:=hH hok.1
    obtain⟨e,he⟩:∃e,l[1]?=some e:=⟨_,af (by omega)⟩
    have hG1:GS L C1 fv gs:=GS.keep hI (fun j _ hj=>x1.get hj) x1.le
    obtain⟨w,D,d1,d2,d3⟩:=azw hT base hM1 (by omega) hb.2.2 hG1 (by omega) hbb hbl hl r14 w14 hk hok he (by omega) (h15:=h15) (h16:=h16) (u13:=.s (.int .i64 ((gN:Int)-1)))
    refine⟨by omega,hbl,by omega,?_,w,D,?_,?_,d3⟩
    .intro f hf;cases hf
     exact⟨jo _,fun b hb=>by cases hb⟩
    .rw[e1,show(none:Option FunD).isSome=false from rfl,d1];rfl
    .rw[jm,he];exact d2
 |some f=>
   have gNe:=g3 rfl;have hF1:FI L C1 fv gs f.name f.ps f.blocks:=FI.keep hI (fun j _ hj=>x1.get hj) x1.le
   rw[gNe,show(((gs.length+1:Nat):Int)-1)=((gs.length:Nat):Int) by omega]at e1
   obtain⟨hb1,hb2⟩:=hca f rfl;dsimp only;obtain⟨⟨k0,ok0⟩,hk0⟩:∃p,sw l (itB enI) 0=p:=⟨_,rfl⟩;obtain⟨⟨k1,ok1⟩,hk1⟩:∃p,sw l (itB lbI) 0=p:=⟨_,rfl⟩;have hle0:=an4 (l:=l) (itB enI) (a:=0) (jo _);have hle1:=an4 (l:=l) (itB lbI) (a:=0) (jo _);rw[hk0]at hle0;rw[hk1]at hle1;rw[hk0,hk1];dsimp only at hle0 hle1 |-;by_cases c0:(ok0&&k0==n)=true
   .rw[dw c0]
    have d1:=bix hT base hM1 (by omega) hbb hbl hl r16 w16 hk0 c0 (h14:=h14) (h15:=h15) (u13:=.s (.int .i64 gs.length))
    refine⟨by omega,hbl,by rw[gm,bi];omega,fun f hf=>(by cases hf),fv,C1,?_,FI.done hF1,hM1⟩
    rw[e1,show(some f).isSome=true from rfl,d1];rfl
   .rw[fu c0];rw[oh]at c0;by_cases c1:(ok1&&k1==n)=true
    .rw[dw c1]
     obtain⟨t0,ht0⟩:∃e,l[0]?=some e:=⟨_,af (by omega)⟩
     obtain⟨D,d1,d2,d3⟩:=a8k hT base hM1 (by omega) (by have:=hM.lt;omega) hF1 (by omega) hbb hbl hl r16 w16 r15 w15 hk0 c0 hk1 c1 ht0 (h14:=h14)
     refine⟨by omega,hbl,by omega,?_,fv,D,?_,?_,d3⟩
     .intro f' hf';cases hf'
      refine⟨by rw[gm,bi];omega,fun b' hb'=>?_⟩
      rcases mo.1 hb' with hb' | hb'
      .have:=hb2 b' hb';omega
      .rw[eu]at hb';subst hb';exact jo _
     .rw[e1,show(some f).isSome=true from rfl,d1];rfl
     .rw[jm,ht0];exact d2
    .rw[fu c1];rw[oh]at c1
     have q:=a8l hT base hM1 (by omega) ⟨hb.1,hb.2.1⟩ (by have:=hM.lt;omega) hF1 (by omega) (fun b hb=>by have:=hb2 b hb;omega) hbb hbl hl r16 w16 r15 w15 hk0 c0 hk1 c1 (by have q:=hFO a t h0 h4;rw[hnn,hl]at q;exact q) (h14:=h14)
     have hbe:∀be,(if f.blocks=[]then .inr (max k0 k1)else ajl l xn (max k0 k1):Sum (Nat × List ByteArray) Nat)=.inr be->be<=l.length:=fun be h=>by
      split at h
      .cases h;omega
      .exact bdz _ h (by omega)
     revert q hbe
     cases(if f.blocks=[]then .inr (max k0 k1)else ajl l xn (max k0 k1):Sum (Nat × List ByteArray) Nat)with
     |inl g=>
       rintro⟨D,d1,d2,d3⟩ _
       refine⟨by omega,hbl,by omega,?_,fv,D,?_,d2,d3⟩
       .intro f' hf';cases hf';by_cases hbs:f.blocks=[]
        .rw[hbs]
         exact⟨jo _,fun b hb=>by cases hb⟩
        .obtain⟨b0,bk,he⟩:∃b0 bk,f.blocks=b0++[bk]:=⟨f.blocks.dropLast,f.blocks.getLast hbs,(ag2 hbs).symm⟩;rw[he,ajb];rw[he]at hb1 hb2
         refine⟨by rw[gm,bi]at hb1 |-;omega,fun b' hb'=>?_⟩
         rcases mo.1 hb' with hb' | hb'
         .have:=hb2 b' (jy _ hb');omega
         .rw[eu]at hb';subst hb'
          have:=hb2 bk (by simp)
          show(bk.code++[_]).length<=b;rw[gm,bi];omega
       .rw[e1,show(some f).isSome=true from rfl,d1];rfl
     |inr be=>
       intro q hbe;have:=hbe be rfl
       obtain⟨w,hw⟩:∃w,ts[a+be]?=some w:=⟨_,af (by omega)⟩
       obtain⟨D,C2,d1,d2,d3⟩:=q w hw (by omega)
       refine⟨w,hw,D,?_,rpe (x1.trans d2) d3⟩;rw[e1,show(some f).isSome=true from rfl,d1]
end
def ay5(t:Tok.T):Prop:=(t.kind=1->∃c s,t.text=c::s/\Tok.letter c=true)/\(t.kind=3->∃c,t.text=[c]/\Tok.sign c=true)
def bjn:∀(n:Nat) (l:List UInt8) (ln cl:Nat) (ts:List Tok.T),l.length<=n->Tok.lex l ln cl=.done ts->∀t∈ts,ay5 t:=by
 intro n
 have e4:∀ln cl,ay5 ⟨4,[],0,ln,cl⟩:=fun ln cl=>⟨fun h=>(by cases h),fun h=>(by cases h)⟩
 induction n with
 |zero=>
   intro l ln cl ts h e
   obtain rfl:l=[]:=jb (by omega)
   rw[Tok.lex_nil]at e;cases e;intro t ht;rw[eu]at ht;subst ht;exact e4 _ _
 |succ n ih=>
   intro l ln cl ts h e;cases l with
   |nil=>
     rw[Tok.lex_nil]at e;cases e;intro t ht;rw[eu]at ht;subst ht;exact e4 _ _
   |cons c l=>
     have hl:l.length<=n:=by simpa using h
     have hd:∀m,(l.drop m).length<=n:=fun m=>by rw[ig];omega
     rw[Tok.lex_cons]at e;split at e
     .split at e
      .exact ih _ _ _ _ hl e
      .exact ih _ _ _ _ hl e
     .split at e
      .exact ih _ _ _ _ (hd _) e
      .split at e
       .rename_i hlet;obtain⟨us,e1,rfl⟩:=Tok.cons_done e;intro t ht
        rcases mq.1 ht with rfl|ht
        .exact⟨fun _=>⟨c,_,rfl,hlet⟩,fun h=>by cases h⟩
        .exact ih _ _ _ _ (hd _) e1 t ht
       .split at e
        .split at e
         .cases e
         .obtain⟨us,e1,rfl⟩:=Tok.cons_done e;intro t ht
          rcases mq.1 ht with rfl|ht
          .exact⟨fun h=>(by cases h),fun h=>by cases h⟩
          .exact ih _ _ _ _ (hd _) e1 t ht
        .split at e
         .rename_i hs;obtain⟨us,e1,rfl⟩:=Tok.cons_done e;intro t ht
          rcases mq.1 ht with rfl|ht
          .exact⟨fun h=>(by cases h),fun _=>⟨c,rfl,hs⟩⟩
          .exact ih _ _ _ _ hl e1 t ht
         .cases e
theorem baj{t}(h:ay5 t){c s}(hc:Tok.letter c=true):((t.kind==1||t.kind==3)&&t.text==c::s)=(t.kind==1&&t.text==c::s):=by
 cases h3:t.kind==3 with
 |false=>rw[zi]
 |true=>
   rw[afm,nk,eq_of_beq h3];obtain⟨d,e,hs⟩:=h.2 (eq_of_beq h3)
   have hd:¬(Tok.letter d=true/\Tok.sign d=true):=by
    rintro⟨h1,h2⟩;simp only[Tok.sign,kr,dz]at h2
    rcases h2 with(((((((h2|h2)|h2)|h2)|h2)|h2)|h2)|h2)|h2<;>rw[h2]at h1<;>exact absurd h1 (by decide)
   have:(t.text==c::s)=false:=by
    rw[cz,e];intro he;cases he;exact hd ⟨hc,hs⟩
   rw[this];rfl
theorem bak{t}(h:ay5 t){c}(hc:Tok.sign c=true):((t.kind==1||t.kind==3)&&t.text==[c])=(t.kind==3&&t.text==[c]):=by
 cases h1:t.kind==1 with
 |false=>rw[qo]
 |true=>
   rw[ru,nk,eq_of_beq h1];obtain⟨d,s,e,hs⟩:=h.1 (eq_of_beq h1)
   have hd:¬(Tok.letter d=true/\Tok.sign d=true):=by
    rintro⟨h1,h2⟩;simp only[Tok.sign,kr,dz]at h2
    rcases h2 with(((((((h2|h2)|h2)|h2)|h2)|h2)|h2)|h2)|h2<;>rw[h2]at h1<;>exact absurd h1 (by decide)
   have:(t.text==[c])=false:=by
    rw[cz,e];intro he;cases he;exact hd ⟨hs,hc⟩
   rw[this];rfl
def a4g{l}(h:∀t∈l,ay5 t){c s}(hc:Tok.letter c=true)(i):bal l i (c::s)=ou l i 1 (c::s):=by
 unfold bal ou;cases ht:l[i]? with
 |none=>rfl
 |some t=>
   dsimp only;rw[baj (h t (ik ht)) hc,show((c::s:List UInt8)==[])=false from rfl,qo]
def a4h{l}(h:∀t∈l,ay5 t){c}(hc:Tok.sign c=true)(i):bal l i [c]=ou l i 3 [c]:=by
 unfold bal ou;cases ht:l[i]? with
 |none=>rfl
 |some t=>
   dsimp only;rw[bak (h t (ik ht)) hc,show(([c]:List UInt8)==[])=false from rfl,qo]
def a0d:∀(l:List Tok.T) (ns:List ByteArray),o5 ns l=ns++o5 [] l:=by
 intro l
 induction l with
 |nil=>intro ns;rw[o5,o5,yo]
 |cons t l ih=>
   intro ns
   rw[o5,ih,o5,ih (if t.kind=1 then[]++[_]else[])]
   split
   .rw[di,ku]
   .rw[di]
def a4o(ln):∀(l:List Tok.T),(∀i,i<age ln l->∃t,l[i]?=some t/\t.kind≠4/\t.line=ln)/\∀t,l[age ln l]?=some t->t.kind=4\/t.line≠ln:=by
 intro l
 induction l with
 |nil=>exact⟨fun i hi=>absurd hi (ap3 _),fun t h=>by cases h⟩
 |cons t l ih=>
   rw[age];by_cases h:t.kind=4\/t.line≠ln
   .rw[dw h]
    exact⟨fun i hi=>absurd hi (ap3 _),fun t' ht=>by cases ht;exact h⟩
   .rw[fu h];have h':=h;rw[bjj,aez]at h';refine⟨fun i hi=>?_,fun t' ht=>ih.2 t' ht⟩;cases i with
    |zero=>exact⟨t,rfl,h'.1,h'.2⟩
    |succ i=>exact ih.1 i (by omega)
structure Piece (ts:List Tok.T) (a n:Nat) (l:List Tok.T):Prop where
 l:(ts.drop a).take n=l
 pos:0<n
 le:a+n<ts.length
 same:∀i,0<i->i<n->(Vw.of ts).same (a+i)=true
 last:(Vw.of ts).same (a+n)=false\/(Vw.of ts).kind (a+n)=4
 k4:∀i,i<n->(Vw.of ts).kind (a+i)≠4
 tk:∀t∈ts,ay5 t
def ama{ts}(hE:alk ts)(tk:∀t∈ts,ay5 t){a t}(h0:ts[a]?=some t)(h4:t.kind≠4):Piece ts a (age t.line (ts.drop (a+1))+1) ((ts.drop a).take (age t.line (ts.drop (a+1))+1)):=by
 have ha:=hE a t h0 h4;have hle:=a4p hE t.line _ (a+1) rfl ha;obtain⟨s1,s2⟩:=a4o t.line (ts.drop (a+1))
 have hat:∀i,i<age t.line (ts.drop (a+1))+1->∃u,ts[a+i]?=some u/\u.kind≠4/\u.line=t.line:=fun i hi=>by
  cases i with
  |zero=>exact⟨t,h0,h4,rfl⟩
  |succ i=>
    obtain⟨u,u1,u2,u3⟩:=s1 i (by omega)
    rw[jc]at u1
    exact⟨u,by rw[show a+(i+1)=a+1+i by omega];exact u1,u2,u3⟩
 have gd:∀{i:Nat} {u:Tok.T},ts[i]?=some u->ts.getD i tkE=u:=fun h=>by rw[jm,h];rfl
 refine⟨rfl,Nat.succ_pos _,by omega,fun i i1 i2=>?_,?_,fun i hi=>?_,tk⟩
 .obtain⟨u,u1,u2,u3⟩:=hat i i2
  obtain⟨v,v1,v2,v3⟩:=hat (i-1) (by omega)
  show(decide (a+i > 0)&&(ts.getD (a+i-1) tkE).line==(ts.getD (a+i) tkE).line)=true
  rw[gd u1,show a+i-1=a+(i-1) by omega,gd v1,u3,v3,yg (by omega),lg]
  rfl
 .obtain⟨v,v1,v2,v3⟩:=hat (age t.line (ts.drop (a+1))) (by omega)
  have hu:ts[a+(age t.line (ts.drop (a+1))+1)]?=some (ts.getD (a+(age t.line (ts.drop (a+1))+1)) tkE):=by
   rw[jm,af (by omega)]
   rfl
  rcases s2 _ (by rw[jc,show a+1+age t.line (ts.drop (a+1))=a+(age t.line (ts.drop (a+1))+1) by omega];exact hu)with e|e
  .exact .inr e
  .left;show(decide (a+(age t.line (ts.drop (a+1))+1) > 0)&&(ts.getD (a+(age t.line (ts.drop (a+1))+1)-1) tkE).line==(ts.getD (a+(age t.line (ts.drop (a+1))+1)) tkE).line)=false
   rw[show a+(age t.line (ts.drop (a+1))+1)-1=a+age t.line (ts.drop (a+1)) by omega,gd v1,v3]
   have:(t.line==((ts.getD (a+(age t.line (ts.drop (a+1))+1)) tkE).line))=false:=by rw[cz];exact fun e'=>e e'.symm
   rw[this,qy]
 .obtain⟨u,u1,u2,_⟩:=hat i hi;show(ts.getD (a+i) tkE).kind≠4;rw[gd u1];exact u2
section
variable {ts:List Tok.T} {a n:Nat} {l:List Tok.T}
def Piece.len(h:Piece ts a n l):l.length=n:=by
 have:=h.le;rw[<- h.l,l5,ig];omega
theorem Piece.at(h:Piece ts a n l){i}(hi:i<n):l[i]?=some (ts.getD (a+i) tkE):=by
 have:=h.le
 rw[<- h.l,gu hi,jc,jm,af (by omega)]
 rfl
def Piece.tkl(h:Piece ts a n l):∀t∈l,ay5 t:=fun t ht=>h.tk t (agm (acp (h.l▸ht)))
theorem Piece.wd(h:Piece ts a n l){i}(h0:0<i)(hi:i<=n){k}(hk:k≠4)(s):ou l i k s=(((Vw.of ts).same (a+i)&&(Vw.of ts).kind (a+i)==k)&&(s==[]||(Vw.of ts).text (a+i)==s)):=by
 unfold ou;by_cases hin:i<n
 .rw[h.at hin,h.same i h0 hin];rfl
 .obtain rfl:i=n:=by omega
  rw[jw (by rw[h.len];exact aj _)]
  dsimp only
  rcases h.last with e|e
  .rw[e];rfl
  .have:((Vw.of ts).kind (a+i)==k)=false:=by rw[e,cz];exact fun e=>hk e.symm
   rw[this,qy];rfl
theorem Piece.wd0(h:Piece ts a n l)(k s):ou l 0 k s=((Vw.of ts).kind a==k&&(s==[]||(Vw.of ts).text a==s)):=by
 unfold ou;rw[h.at h.pos];rfl
theorem Piece.beg(h:Piece ts a n l){i}(h0:0<i)(hi:i<=n):ap0 (Vw.of ts) (a+i)=decide (i<n):=by
 unfold ap0;by_cases hin:i<n
 .rw[h.same i h0 hin,yg hin];have:=h.k4 i hin;rw[nk,ny];exact this
 .obtain rfl:i=n:=by omega
  rw[uz (acg _)]
  rcases h.last with e|e
  .rw[e];rfl
  .rw[e,Bool.and_eq_false_iff];right;rfl
theorem Piece.nm(h:Piece ts a n l){i}(hi:i<n):o5 [] (l.drop i)=(if(Vw.of ts).kind (a+i)=1 then[bOf ((Vw.of ts).text (a+i))]else[])++o5 [] (l.drop (i+1)):=by
 have hil:i<l.length:=by rw[h.len];exact hi
 rw[ed hil,o5,a0d];have e:=h.at hi;rw[af hil]at e;rw[jk e];rfl
theorem Piece.nu(h:Piece ts a n l){i}(hi:i<n)(k):aex k (l.drop i)=aex (if(Vw.of ts).kind (a+i)=2 then(Vw.of ts).num (a+i)else k) (l.drop (i+1)):=by
 have hil:i<l.length:=by rw[h.len];exact hi
 rw[ed hil,aex];have e:=h.at hi;rw[af hil]at e;rw[jk e];rfl
theorem Piece.nmE(h:Piece ts a n l):o5 [] (l.drop n)=[]:=by rw[uy (by rw[h.len];exact aj _)];rfl
theorem Piece.nuE(h:Piece ts a n l)(k):aex k (l.drop n)=k:=by rw[uy (by rw[h.len];exact aj _)];rfl
theorem Piece.name(h:Piece ts a n l){i}(h0:0<i)(hi:i<=n):q9 (Vw.of ts) (a+i)=if ou l i 1 []=true then .ok (bOf ((Vw.of ts).text (a+i)),a+i+1)else .error (a+i):=by
 rw[h.wd h0 hi (by decide),show(([]:List UInt8)==[])=true from rfl,ru,gy]
 rfl
theorem Piece.size(h:Piece ts a n l){i}(h0:0<i)(hi:i<=n):yl (Vw.of ts) (a+i)=if ou l i 2 []=true then .ok ((Vw.of ts).num (a+i),a+i+1)else .error (a+i):=by
 rw[h.wd h0 hi (by decide),show(([]:List UInt8)==[])=true from rfl,ru,gy]
 rfl
theorem Piece.is(h:Piece ts a n l){i}(h0:0<i)(hi:i<=n){s}(hs:(s==[])=false):isT (Vw.of ts) s (a+i)=ou l i 3 s:=by
 rw[h.wd h0 hi (by decide),hs,qo]
 rfl
def Piece.sign(h:Piece ts a n l){i}(h0:0<i)(hi:i<=n){s}(hs:(s==[])=false):ul (Vw.of ts) s (a+i)=if ou l i 3 s=true then .ok ((),a+i+1)else .error (a+i):=by
 unfold ul;rw[h.is h0 hi hs]
end
theorem bind_assoc{α β γ:Type}(f:Rx α)(g:α->Rx β)(k:β->Rx γ)(p):Rx.bind (Rx.bind f g) k p=Rx.bind f (fun x=>Rx.bind (g x) k) p:=by
 unfold Rx.bind;cases f p with
 |error e=>rfl
 |ok x=>rfl
def ar7{α β:Type}{f f':Rx α}{g:α->Rx β}{p}(h:f p=f' p):Rx.bind f g p=Rx.bind f' g p:=by unfold Rx.bind;rw[h]
def ui{α β:Type}{f:Rx α}{g:α->Rx β}{p e}(h:f p=.error e):Rx.bind f g p=.error e:=by unfold Rx.bind;rw[h]
def o9{α β:Type}{f:Rx α}{g:α->Rx β}{p c}{x:α}(h:f p=.ok (x,c)):Rx.bind f g p=g x c:=by unfold Rx.bind;rw[h]
def afi{α:Type}(a n:Nat)(res:Except Nat (α × Nat))(fr:Nat × Bool)(P:α->Nat->Prop):Prop:=match res with
 |.error e=>∃j,e=a+j/\fr=(j,false)
 |.ok (y,c)=>∃j,c=a+j/\j<=n/\fr=(j,true)/\P y j
def afi.err{α:Type}{a n j}{P:α->Nat->Prop}:afi a n (.error (a+j):Except Nat (α × Nat)) (j,false) P:=⟨j,rfl,rfl⟩
def afi.mono{α:Type}{a n}{res:Except Nat (α × Nat)}{fr}{P Q:α->Nat->Prop}(h:afi a n res fr P)(hq:∀y j,P y j->Q y j):afi a n res fr Q:=by
 unfold afi at h |-;cases res with
 |error e=>exact h
 |ok p=>obtain⟨j,a1,a2,a3,a4⟩:=h;exact⟨j,a1,a2,a3,hq _ _ a4⟩
section
variable {ts:List Tok.T} {a n:Nat} {l:List Tok.T}
def Piece.name_c(h:Piece ts a n l){i}(h0:0<i)(hi:i<=n):(∃s,ou l i 1 []=true/\i<n/\q9 (Vw.of ts) (a+i)=.ok (s,a+(i+1))/\o5 [] (l.drop i)=s::o5 [] (l.drop (i+1))/\∀k,aex k (l.drop i)=aex k (l.drop (i+1)))\/(ou l i 1 []=false/\q9 (Vw.of ts) (a+i)=.error (a+i)):=by
 rw[h.name h0 hi];cases hw:ou l i 1 []with
 |false=>exact .inr ⟨rfl,rfl⟩
 |true=>
   have hin:i<n:=by have:=ry hw;rwa[h.len]at this
   rw[h.wd h0 hi (by decide)]at hw
   simp only[au,dz]at hw;have hk:=hw.1.2;refine .inl ⟨_,rfl,hin,rfl,?_,fun k=>?_⟩
   .rw[h.nm hin,dw hk];rfl
   .rw[h.nu hin,fu (by omega)]
def Piece.size_c(h:Piece ts a n l){i}(h0:0<i)(hi:i<=n):(∃s,ou l i 2 []=true/\i<n/\yl (Vw.of ts) (a+i)=.ok (s,a+(i+1))/\o5 [] (l.drop i)=o5 [] (l.drop (i+1))/\∀k,aex k (l.drop i)=aex s (l.drop (i+1)))\/(ou l i 2 []=false/\yl (Vw.of ts) (a+i)=.error (a+i)):=by
 rw[h.size h0 hi];cases hw:ou l i 2 []with
 |false=>exact .inr ⟨rfl,rfl⟩
 |true=>
   have hin:i<n:=by have:=ry hw;rwa[h.len]at this
   rw[h.wd h0 hi (by decide)]at hw
   simp only[au,dz]at hw;have hk:=hw.1.2;refine .inl ⟨_,rfl,hin,rfl,?_,fun k=>?_⟩
   .rw[h.nm hin,fu (by omega)];rfl
   .rw[h.nu hin,dw hk]
def Piece.sign_c(h:Piece ts a n l){i}(h0:0<i)(hi:i<=n){s}(hs:(s==[])=false):(ou l i 3 s=true/\i<n/\ul (Vw.of ts) s (a+i)=.ok ((),a+(i+1))/\isT (Vw.of ts) s (a+i)=true/\o5 [] (l.drop i)=o5 [] (l.drop (i+1))/\∀k,aex k (l.drop i)=aex k (l.drop (i+1)))\/(ou l i 3 s=false/\ul (Vw.of ts) s (a+i)=.error (a+i)/\isT (Vw.of ts) s (a+i)=false):=by
 rw[h.sign h0 hi hs,h.is h0 hi hs];cases hw:ou l i 3 s with
 |false=>exact .inr ⟨rfl,rfl,rfl⟩
 |true=>
   have hin:i<n:=by have:=ry hw;rwa[h.len]at this
   rw[h.wd h0 hi (by decide)]at hw
   simp only[au,dz]at hw;have hk:=hw.1.2;refine .inl ⟨rfl,hin,rfl,rfl,?_,fun k=>?_⟩
   .rw[h.nm hin,fu (by omega)];rfl
   .rw[h.nu hin,fu (by omega)]
def bam(h:Piece ts a n l):∀(m m' j:Nat) (acc:List ByteArray),0<j->j<=n->n<j+m->n<j+m'->
 afi a n (Rx.bind (q9 (Vw.of ts)) (fun x=>Rx.bind (abt (Vw.of ts) m (acc++[x])) fun ys=>Rx.bind (ul (Vw.of ts) [41]) fun _ c=>.ok (ys,c)) (a+j)) (aow l false [41] m' j) (fun ys j'=>∃zs,ys=acc++zs/\o5 [] (l.drop j)=zs++o5 [] (l.drop j')/\∀k,aex k (l.drop j)=aex k (l.drop j')):=by
 intro m
 induction m with
 |zero=>intro m' j acc h0 hj h1 h2;omega
 |succ m ih=>
   intro m' j acc h0 hj h1 h2
   obtain⟨m',rfl⟩:∃k,m'=k+1:=⟨m'-1,by omega⟩
   rw[aow]
   rcases h.name_c h0 hj with⟨s,w1,w2,w3,w4,w5⟩|⟨w1,w2⟩
   .rw[o9 w3,dw w1];simp only[ll,ic,ky]
    rcases h.sign_c (i:=j+1) (by omega) (by omega) (s:=[41]) rfl with⟨c1,c2,c3,c4,c5,c6⟩|⟨c1,c2,c3⟩
    .rw[dw c1]
     have e:abt (Vw.of ts) (m+1) (acc++[s]) (a+(j+1))=.ok (acc++[s],a+(j+1)):=by rw[abt,dw c4]
     rw[o9 e,o9 c3]
     exact⟨j+1+1,rfl,c2,rfl,[s],rfl,by rw[w4,c5];rfl,fun k=>by rw[w5,c6]⟩
    .rw[fu (by rw[c1];decide)]
     have e:abt (Vw.of ts) (m+1) (acc++[s]) (a+(j+1))=Rx.bind (ul (Vw.of ts) [44]) (fun _=>Rx.bind (q9 (Vw.of ts)) fun x=>abt (Vw.of ts) m (acc++[s]++[x])) (a+(j+1)):=by
      rw[abt,fu (by rw[c3];decide),dw (by simp)]
     have e2:∀G:List ByteArray->Rx (List ByteArray),Rx.bind (abt (Vw.of ts) (m+1) (acc++[s])) G (a+(j+1))=Rx.bind (ul (Vw.of ts) [44]) (fun _=>Rx.bind (q9 (Vw.of ts)) fun x=>Rx.bind (abt (Vw.of ts) m (acc++[s]++[x])) G) (a+(j+1)):=fun G=>by
      rw[ar7 e,bind_assoc]
      congr 1
      funext _
      funext p
      exact bind_assoc _ _ _ p
     rw[e2]
     rcases h.sign_c (i:=j+1) (by omega) (by omega) (s:=[44]) rfl with⟨d1,d2,d3,d4,d5,d6⟩|⟨d1,d2,d3⟩
     .rw[dw d1,o9 d3]
      refine(ih m' (j+1+1) (acc++[s]) (by omega) (by omega) (by omega) (by omega)).mono fun ys j'=>?_
      rintro⟨zs,q1,q2,q3⟩
      exact⟨s::zs,by rw[q1,ku];rfl,by rw[w4,d5,q2];rfl,fun k=>by rw[w5,d6,q3]⟩
     .rw[fu (by rw[d1];decide),ui d2]
      exact afi.err
   .rw[ui w2,fu (by rw[w1];decide)]
    exact afi.err
def arc(h:Piece ts a n l){N}(hN:n<N)(is){i}(h0:0<i)(hi:i<=n):∃fr,sw l ([40]::is) i=(if fr.2=true then sw l is fr.1 else(fr.1,false))/\afi a n (agd (Vw.of ts) N (a+i)) fr (fun ys j=>o5 [] (l.drop i)=ys++o5 [] (l.drop j)/\∀k,aex k (l.drop i)=aex k (l.drop j)):=by
 have ef:sw l ([40]::is) i=(if ou l i 3 [40]then(if(alx l false [41] (i+1)).2 then sw l is (alx l false [41] (i+1)).1 else((alx l false [41] (i+1)).1,false))else(i,false)):=rfl
 rw[ef];unfold agd
 rcases h.sign_c h0 hi (s:=[40]) rfl with⟨c1,c2,c3,c4,c5,c6⟩|⟨c1,c2,c3⟩
 .rw[dw c1,o9 c3];refine⟨alx l false [41] (i+1),rfl,?_⟩;unfold alx;simp only[um,nk]
  rcases h.sign_c (i:=i+1) (by omega) (by omega) (s:=[41]) rfl with⟨d1,d2,d3,d4,d5,d6⟩|⟨d1,d2,d3⟩
  .rw[dw d1]
   obtain⟨m,rfl⟩:∃m,N=m+1:=⟨N-1,by omega⟩
   have e:abt (Vw.of ts) (m+1) [] (a+(i+1))=.ok ([],a+(i+1)):=by rw[abt,dw d4]
   rw[o9 e,o9 d3]
   exact⟨i+1+1,rfl,d2,rfl,by rw[c5,d5];rfl,fun k=>by rw[c6,d6]⟩
  .rw[fu (by rw[d1];decide)]
   obtain⟨m,rfl⟩:∃m,N=m+1:=⟨N-1,by omega⟩
   have e2:∀G:List ByteArray->Rx (List ByteArray),Rx.bind (abt (Vw.of ts) (m+1) []) G (a+(i+1))=Rx.bind (q9 (Vw.of ts)) (fun x=>Rx.bind (abt (Vw.of ts) m ([]++[x])) G) (a+(i+1)):=fun G=>by
    rw[<- bind_assoc];refine ar7 ?_
    rw[abt,fu (by rw[d3];decide),fu (by decide)]
   rw[e2]
   refine(bam h m (l.length+1) (i+1) [] (by omega) (by omega) (by omega) (by rw[h.len];omega)).mono fun ys j=>?_
   rintro⟨zs,q1,q2,q3⟩;rw[q1]
   exact⟨by rw[c5,q2];rfl,fun k=>by rw[c6,q3]⟩
 .rw[fu (by rw[c1];decide),ui c2]
  exact⟨(i,false),rfl,afi.err⟩
end
def flat2(ps:List (ByteArray × ByteArray)):List ByteArray:=ps.flatMap fun p=>[p.1,p.2]
def a5p(ps):(flat2 ps).length=2*ps.length:=by
 induction ps with
 |nil=>rfl
 |cons p ps ih=>unfold flat2 at ih |-;rw[List.flatMap_cons,gm,ih,bn];simp;omega
theorem bga(ps):phL (flat2 ps) 0 ps.length=ps.map (·.1)/\phL (flat2 ps) 1 ps.length=ps.map (·.2):=by
 have key:∀(ps:List (ByteArray × ByteArray)) (i:Nat) (p:ByteArray × ByteArray),ps[i]?=some p->(flat2 ps)[2*i]?=some p.1/\(flat2 ps)[2*i+1]?=some p.2:=by
  intro ps
  induction ps with
  |nil=>intro i p h;simp at h
  |cons q ps ih=>
    intro i p h;have e:flat2 (q::ps)=q.1::q.2::flat2 ps:=rfl;cases i with
    |zero=>cases h;exact⟨rfl,rfl⟩
    |succ i=>
      have:=ih i p h
      rw[e,show 2*(i+1)=2*i+1+1 by omega]
      exact this
 constructor
 .refine wh fun i=>?_;unfold phL;rw[nz,nz];by_cases hi:i<ps.length
  .rw[af hi,ada hi];have:=(key ps i _ (af hi)).1;simp only[mh,ng,jm,this,aft]
  .rw[jw (by simpa using hi),jw (by omega)]
   rfl
 .refine wh fun i=>?_;unfold phL;rw[nz,nz];by_cases hi:i<ps.length
  .rw[af hi,ada hi];have:=(key ps i _ (af hi)).2;rw[Nat.add_comm]at this;simp only[mh,jm,this,aft]
  .rw[jw (by simpa using hi),jw (by omega)]
   rfl
section
variable {ts:List Tok.T} {a n:Nat} {l:List Tok.T}
def beo(h:Piece ts a n l):∀(m m' j:Nat) (ls xs:List ByteArray),0<j->j<=n->n<j+m->n<j+m'->
 afi a n (Rx.bind (amb (Vw.of ts) m ls xs) (fun p=>Rx.bind (ul (Vw.of ts) [93]) fun _ c=>.ok (p,c)) (a+j)) (aow l true [93] m' j) (fun p j'=>∃zs:List (ByteArray × ByteArray),p=(ls++zs.map (·.1),xs++zs.map (·.2))/\zs≠[]/\o5 [] (l.drop j)=flat2 zs++o5 [] (l.drop j')/\∀k,aex k (l.drop j)=aex k (l.drop j')):=by
 intro m
 induction m with
 |zero=>intro m' j ls xs h0 hj h1 h2;omega
 |succ m ih=>
   intro m' j ls xs h0 hj h1 h2
   obtain⟨m',rfl⟩:∃k,m'=k+1:=⟨m'-1,by omega⟩
   rw[aow];obtain⟨G,hG⟩:∃G:List ByteArray × List ByteArray->Rx (List ByteArray × List ByteArray),(fun p=>Rx.bind (ul (Vw.of ts) [93]) fun _ c=>.ok (p,c))=G:=⟨_,rfl⟩;rw[hG]
   have e0:Rx.bind (amb (Vw.of ts) (m+1) ls xs) G (a+j)=Rx.bind (q9 (Vw.of ts)) (fun s=>Rx.bind (Rx.bind (ul (Vw.of ts) [58]) fun _=>Rx.bind (q9 (Vw.of ts)) fun x b=>if isT (Vw.of ts) [44] b=true then Rx.bind (ul (Vw.of ts) [44]) (fun _=>amb (Vw.of ts) m (ls++[s]) (xs++[x])) b else .ok ((ls++[s],xs++[x]),b)) G) (a+j):=by
    rw[<- bind_assoc]
    exact ar7 (by rw[amb])
   rw[e0]
   rcases h.name_c h0 hj with⟨s,w1,w2,w3,w4,w5⟩|⟨w1,w2⟩
   .rw[o9 w3,dw w1,bind_assoc];simp only[nk,jf]
    rcases h.sign_c (i:=j+1) (by omega) (by omega) (s:=[58]) rfl with⟨c1,c2,c3,c4,c5,c6⟩|⟨c1,c2,c3⟩
    .rw[o9 c3,fu (by rw[c1];decide),bind_assoc]
     rcases h.name_c (i:=j+2) (by omega) (by omega)with⟨x,v1,v2,v3,v4,v5⟩|⟨v1,v2⟩
     .rw[show a+(j+1+1)=a+(j+2) by omega,o9 v3,fu (by rw[v1];decide)]
      have n3:o5 [] (l.drop j)=s::x::o5 [] (l.drop (j+3)):=by rw[w4,c5,v4]
      have u3:∀k,aex k (l.drop j)=aex k (l.drop (j+3)):=fun k=>by rw[w5,c6,v5]
      rcases h.sign_c (i:=j+3) (by omega) (by omega) (s:=[44]) rfl with⟨d1,d2,d3,d4,d5,d6⟩|⟨d1,d2,d3⟩
      .
       have n93:ou l (j+3) 3 [93]=false:=by
        rw[h.wd (by omega) (by omega) (by decide)]
        rw[h.wd (by omega) (by omega) (by decide)]at d1
        simp only[au,kr,dz]at d1
        rcases d1.2 with e|e
        .cases e
        .rw[e];simp
       rw[fu (by rw[n93];decide),dw d1]
       have e1:Rx.bind (fun b=>if isT (Vw.of ts) [44] b=true then Rx.bind (ul (Vw.of ts) [44]) (fun _=>amb (Vw.of ts) m (ls++[s]) (xs++[x])) b else .ok ((ls++[s],xs++[x]),b)) G (a+(j+3))=Rx.bind (amb (Vw.of ts) m (ls++[s]) (xs++[x])) G (a+(j+3+1)):=by
        have:Rx.bind (fun b=>if isT (Vw.of ts) [44] b=true then Rx.bind (ul (Vw.of ts) [44]) (fun _=>amb (Vw.of ts) m (ls++[s]) (xs++[x])) b else .ok ((ls++[s],xs++[x]),b)) G (a+(j+3))=Rx.bind (Rx.bind (ul (Vw.of ts) [44]) (fun _=>amb (Vw.of ts) m (ls++[s]) (xs++[x]))) G (a+(j+3)):=ar7 (by rw[dw d4])
        rw[this,bind_assoc,o9 d3]
       rw[show a+(j+2+1)=a+(j+3) by omega,e1,<- hG]
       refine(ih m' (j+3+1) (ls++[s]) (xs++[x]) (by omega) (by omega) (by omega) (by omega)).mono fun p j'=>?_
       rintro⟨zs,q1,q2,q3,q4⟩
       exact⟨(s,x)::zs,by rw[q1,ku,ku];rfl,by simp,by rw[n3,d5,q3];rfl,fun k=>by rw[u3,d6,q4]⟩
      .have e1:Rx.bind (fun b=>if isT (Vw.of ts) [44] b=true then Rx.bind (ul (Vw.of ts) [44]) (fun _=>amb (Vw.of ts) m (ls++[s]) (xs++[x])) b else .ok ((ls++[s],xs++[x]),b)) G (a+(j+3))=G (ls++[s],xs++[x]) (a+(j+3)):=o9 (by rw[fu (by rw[d3];decide)])
       rw[show a+(j+2+1)=a+(j+3) by omega,e1,<- hG]
       dsimp only
       rcases h.sign_c (i:=j+3) (by omega) (by omega) (s:=[93]) rfl with⟨f1,f2,f3,f4,f5,f6⟩|⟨f1,f2,f3⟩
       .rw[dw f1,o9 f3]
        exact⟨j+3+1,rfl,f2,rfl,[(s,x)],rfl,by simp,by rw[n3,f5];rfl,fun k=>by rw[u3,f6]⟩
       .rw[fu (by rw[f1];decide),fu (by rw[d1];decide),ui f2]
        exact afi.err
     .rw[show a+(j+1+1)=a+(j+2) by omega,ui v2,dw (by rw[v1];rfl)]
      exact afi.err
    .rw[ui c2,dw (by rw[c1];rfl)]
     exact afi.err
   .rw[ui w2,fu (by rw[w1];decide)]
    exact afi.err
def aox:Nat->List (List UInt8)
 |1|2=>[[75]]
 |3=>[]
 |4|5|8|13=>[[78]]
 |6=>[[91]]
 |7=>[[78],[75]]
 |9=>[[78],[44],[78]]
 |10|11=>[[78],[40]]
 |12=>[[78],[78]]
 |_=>[[63]]
theorem akt(is i):sw l ([78]::is) i=if ou l i 1 []=true then sw l is (i+1)else(i,false):=rfl
theorem bj4(is i):sw l ([75]::is) i=if ou l i 2 []=true then sw l is (i+1)else(i,false):=rfl
theorem bj3(is i):sw l ([63]::is) i=(if ou l i 1 []=true then i+1 else i,true):=rfl
theorem bgb(i):sw l [] i=(i,true):=rfl
theorem auf(h:∀t∈l,ay5 t)(is i){c}(hc:Tok.sign c=true)(hn:c≠40/\c≠91):sw l ([c]::is) i=if ou l i 3 [c]=true then sw l is (i+1)else(i,false):=by
 have nl:Tok.letter 78=true/\Tok.letter 75=true:=⟨rfl,rfl⟩
 have n1:([c]==([78]:List UInt8))=false:=by rw[cz];intro e;cases e;exact absurd hc (by decide)
 have n2:([c]==([75]:List UInt8))=false:=by rw[cz];intro e;cases e;exact absurd hc (by decide)
 have n3:([c]==([63]:List UInt8))=false:=by rw[cz];intro e;cases e;exact absurd hc (by decide)
 have n4:([c]==([40]:List UInt8))=false:=by rw[cz];intro e;cases e;exact hn.1 rfl
 have n5:([c]==([91]:List UInt8))=false:=by rw[cz];intro e;cases e;exact hn.2 rfl
 rw[sw,n1,n2,n3,n4,n5,a4h h hc];rfl
def bc6(h:Piece ts a n l){N}(hN:n<N){op}(hop:op∈[1,2,3,4,5,6,7,8,9,10,11,12,13,14])(d){i}(h0:0<i)(hi:i<=n):
 afi a n (opT (Vw.of ts) N op { aha with op:=op,d:=d } (a+i)) (sw l (aox op) i) (fun x j=>j=n->x=ao0 op d (o5 [] (l.drop i)) (aex 0 (l.drop i))/\a0n op (o5 [] (l.drop i))):=by
 have nE:=h.nmE;have uE:=h.nuE
 have one:∀(op:Nat) (f:ByteArray->InsD),(∀s,o5 [] (l.drop i)=[s]->(aex 0 (l.drop i)=0)->f s=ao0 op d [s] 0/\a0n op [s])->afi a n (Rx.bind (q9 (Vw.of ts)) (fun s c=>.ok (f s,c)) (a+i)) (sw l [[78]] i) (fun x j=>j=n->x=ao0 op d (o5 [] (l.drop i)) (aex 0 (l.drop i))/\a0n op (o5 [] (l.drop i))):=by
  intro op f hf;rw[akt]
  rcases h.name_c h0 hi with⟨s,w1,w2,w3,w4,w5⟩|⟨w1,w2⟩
  .rw[o9 w3,dw w1];refine⟨i+1,rfl,w2,rfl,fun e=>?_⟩
   have q1:o5 [] (l.drop i)=[s]:=by rw[w4,e,nE]
   have q2:aex 0 (l.drop i)=0:=by rw[w5,e,uE]
   rw[q1,q2];exact hf s q1 q2
  .rw[ui w2,fu (by rw[w1];decide)]
   exact afi.err
 have num:∀(op:Nat),op=1\/op=2->afi a n (Rx.bind (yl (Vw.of ts)) (fun m c=>.ok ({ ({ aha with op:=op,d:=d }:InsD)with k:=m },c)) (a+i)) (sw l [[75]] i) (fun x j=>j=n->x=ao0 op d (o5 [] (l.drop i)) (aex 0 (l.drop i))/\a0n op (o5 [] (l.drop i))):=by
  intro op ho;rw[bj4]
  rcases h.size_c h0 hi with⟨s,w1,w2,w3,w4,w5⟩|⟨w1,w2⟩
  .rw[o9 w3,dw w1];refine⟨i+1,rfl,w2,rfl,fun e=>?_⟩;rw[w4,w5,e,nE,uE]
   rcases ho with rfl|rfl<;>exact⟨rfl,trivial⟩
  .rw[ui w2,fu (by rw[w1];decide)]
   exact afi.err
 have lst:∀(op:Nat) (f:ByteArray->List ByteArray->InsD),(∀s ys,f s ys=ao0 op d (s::ys) 0/\a0n op (s::ys))->afi a n (Rx.bind (q9 (Vw.of ts)) (fun s=>Rx.bind (agd (Vw.of ts) N) fun ys c=>.ok (f s ys,c)) (a+i)) (sw l [[78],[40]] i) (fun x j=>j=n->x=ao0 op d (o5 [] (l.drop i)) (aex 0 (l.drop i))/\a0n op (o5 [] (l.drop i))):=by
  intro op f hf;rw[akt]
  rcases h.name_c h0 hi with⟨s,w1,w2,w3,w4,w5⟩|⟨w1,w2⟩
  .rw[o9 w3,dw w1]
   obtain⟨fr,e1,e2⟩:=arc h hN [] (i:=i+1) (by omega) (by omega)
   rw[e1];revert e2;cases hl:agd (Vw.of ts) N (a+(i+1))with
   |error e=>
     rintro⟨j,rfl,rfl⟩;rw[ui hl];exact afi.err
   |ok p=>
     obtain⟨ys,c⟩:=p;rintro⟨j,rfl,a2,rfl,a4,a5⟩;rw[o9 hl];refine⟨j,rfl,a2,rfl,fun e=>?_⟩;subst e;rw[w4,a4,nE,w5,a5,uE,yo];exact hf s ys
  .rw[ui w2,fu (by rw[w1];decide)]
   exact afi.err
 simp only[mq,xq,aiu]at hop
 rcases hop with rfl|rfl|rfl|rfl|rfl|rfl|rfl|rfl|rfl|rfl|rfl|rfl|rfl|rfl
 .exact num 1 (.inl rfl)
 .exact num 2 (.inr rfl)
 .refine⟨i,rfl,hi,rfl,fun e=>?_⟩;subst e;rw[nE,uE];exact⟨rfl,trivial⟩
 .exact one 4 (fun s=>{ ({ aha with op:=(4:Nat),d:=d }:InsD)with f:=s }) fun s _ _=>⟨rfl,aj _⟩
 .exact one 5 (fun s=>{ ({ aha with op:=(5:Nat),d:=d }:InsD)with a:=s }) fun s _ _=>⟨rfl,aj _⟩
 .
  have ef:sw l [[91]] i=(if ou l i 3 [91]then(if(aow l true [93] (l.length+1) (i+1)).2 then sw l [] (aow l true [93] (l.length+1) (i+1)).1 else((aow l true [93] (l.length+1) (i+1)).1,false))else(i,false)):=rfl
  show afi a n (Rx.bind (ul (Vw.of ts) [91]) (fun _=>Rx.bind (amb (Vw.of ts) N [] []) fun p=>Rx.bind (ul (Vw.of ts) [93]) fun _ c=>.ok ({ ({ aha with op:=(6:Nat),d:=d }:InsD)with ls:=p.1,xs:=p.2 },c)) (a+i)) (sw l [[91]] i) _;rw[ef]
  rcases h.sign_c h0 hi (s:=[91]) rfl with⟨c1,c2,c3,c4,c5,c6⟩|⟨c1,c2,c3⟩
  .rw[dw c1,o9 c3]
   have q:=beo h N (l.length+1) (i+1) [] [] (by omega) (by omega) (by omega) (by rw[h.len];omega)
   have e1:Rx.bind (amb (Vw.of ts) N [] []) (fun p=>Rx.bind (ul (Vw.of ts) [93]) fun _ c=>.ok ({ ({ aha with op:=(6:Nat),d:=d }:InsD)with ls:=p.1,xs:=p.2 },c)) (a+(i+1))=Rx.bind (Rx.bind (amb (Vw.of ts) N [] []) (fun p=>Rx.bind (ul (Vw.of ts) [93]) fun _ c=>.ok (p,c))) (fun p c=>.ok ({ ({ aha with op:=(6:Nat),d:=d }:InsD)with ls:=p.1,xs:=p.2 },c)) (a+(i+1)):=by
    rw[bind_assoc]
    congr 1
    funext p q
    rw[bind_assoc];rfl
   rw[e1];revert q;cases hl:Rx.bind (amb (Vw.of ts) N [] []) (fun p=>Rx.bind (ul (Vw.of ts) [93]) fun _ c=>.ok (p,c)) (a+(i+1))with
   |error e=>
     rintro⟨j,rfl,q⟩;rw[q,ui hl];exact afi.err
   |ok p=>
     obtain⟨p,c⟩:=p;rintro⟨j,rfl,a2,q,zs,z1,z2,z3,z4⟩;rw[q,o9 hl];refine⟨j,rfl,a2,rfl,fun e=>?_⟩;subst e;rw[c5,z3,nE,c6,z4,uE,yo,z1];have hlen:=a5p zs;obtain⟨L1,L2⟩:=bga zs;refine⟨?_,zs.length,hlen,List.length_pos_iff.2 z2⟩;unfold ao0
     rw[hlen,bl4 _ (by decide),L1,L2]
     rfl
  .rw[fu (by rw[c1];decide),ui c2]
   exact afi.err
 .
  show afi a n (Rx.bind (q9 (Vw.of ts)) (fun s=>Rx.bind (yl (Vw.of ts)) fun m c=>.ok ({ ({ aha with op:=(7:Nat),d:=d }:InsD)with a:=s,k:=m },c)) (a+i)) (sw l [[78],[75]] i) _;rw[akt]
  rcases h.name_c h0 hi with⟨s,w1,w2,w3,w4,w5⟩|⟨w1,w2⟩
  .rw[o9 w3,dw w1,bj4]
   rcases h.size_c (i:=i+1) (by omega) (by omega)with⟨m,v1,v2,v3,v4,v5⟩|⟨v1,v2⟩
   .rw[o9 v3,dw v1];refine⟨i+1+1,rfl,v2,rfl,fun e=>?_⟩;rw[w4,v4,w5,v5,e,nE,uE];exact⟨rfl,aj _⟩
   .rw[ui v2,fu (by rw[v1];decide)]
    exact afi.err
  .rw[ui w2,fu (by rw[w1];decide)]
   exact afi.err
 .exact one 8 (fun s=>{ ({ aha with op:=(8:Nat),d:=d }:InsD)with a:=s }) fun s _ _=>⟨rfl,aj _⟩
 .
  show afi a n (Rx.bind (q9 (Vw.of ts)) (fun s=>Rx.bind (ul (Vw.of ts) [44]) fun _=>Rx.bind (q9 (Vw.of ts)) fun t c=>.ok ({ ({ aha with op:=(9:Nat),d:=d }:InsD)with a:=s,b:=t },c)) (a+i)) (sw l [[78],[44],[78]] i) _;rw[akt]
  rcases h.name_c h0 hi with⟨s,w1,w2,w3,w4,w5⟩|⟨w1,w2⟩
  .rw[o9 w3,dw w1,auf h.tkl _ _ (by decide) (by decide)]
   rcases h.sign_c (i:=i+1) (by omega) (by omega) (s:=[44]) rfl with⟨c1,c2,c3,c4,c5,c6⟩|⟨c1,c2,c3⟩
   .rw[dw c1,o9 c3,akt]
    rcases h.name_c (i:=i+1+1) (by omega) (by omega)with⟨t,v1,v2,v3,v4,v5⟩|⟨v1,v2⟩
    .rw[o9 v3,dw v1];refine⟨i+1+1+1,rfl,v2,rfl,fun e=>?_⟩;rw[w4,c5,v4,w5,c6,v5,e,nE,uE];exact⟨rfl,aj _⟩
    .rw[ui v2,fu (by rw[v1];decide)]
     exact afi.err
   .rw[fu (by rw[c1];decide),ui c2]
    exact afi.err
  .rw[ui w2,fu (by rw[w1];decide)]
   exact afi.err
 .exact lst 10 (fun s ys=>{ ({ aha with op:=(10:Nat),d:=d }:InsD)with f:=s,xs:=ys }) fun s ys=>⟨rfl,by show 1<=(s::ys).length;simp⟩
 .exact lst 11 (fun s ys=>{ ({ aha with op:=(11:Nat),d:=d }:InsD)with a:=s,xs:=ys }) fun s ys=>⟨rfl,by show 1<=(s::ys).length;simp⟩
 .
  show afi a n (Rx.bind (q9 (Vw.of ts)) (fun s=>Rx.bind (q9 (Vw.of ts)) fun t c=>.ok ({ ({ aha with op:=(12:Nat),d:=d }:InsD)with ls:=[s,t] },c)) (a+i)) (sw l [[78],[78]] i) _;rw[akt]
  rcases h.name_c h0 hi with⟨s,w1,w2,w3,w4,w5⟩|⟨w1,w2⟩
  .rw[o9 w3,dw w1,akt]
   rcases h.name_c (i:=i+1) (by omega) (by omega)with⟨t,v1,v2,v3,v4,v5⟩|⟨v1,v2⟩
   .rw[o9 v3,dw v1];refine⟨i+1+1,rfl,v2,rfl,fun e=>?_⟩;rw[w4,v4,w5,v5,e,nE,uE];exact⟨rfl,trivial⟩
   .rw[ui v2,fu (by rw[v1];decide)]
    exact afi.err
  .rw[ui w2,fu (by rw[w1];decide)]
   exact afi.err
 .exact one 13 (fun s=>{ ({ aha with op:=(13:Nat),d:=d }:InsD)with ls:=[s] }) fun s _ _=>⟨rfl,trivial⟩
 .
  have ec:((Vw.of ts).same (a+i)&&(Vw.of ts).kind (a+i)==1)=ou l i 1 []:=by rw[h.wd h0 hi (by decide),show(([]:List UInt8)==[])=true from rfl,ru,gy]
  show afi a n (if((Vw.of ts).same (a+i)&&(Vw.of ts).kind (a+i)==1)=true then Rx.bind (q9 (Vw.of ts)) (fun s c=>.ok ({ ({ aha with op:=(14:Nat),d:=d }:InsD)with a:=s },c)) (a+i)else .ok ({ aha with op:=(14:Nat),d:=d },a+i)) (sw l [[63]] i) _
  rw[ec,bj3]
  rcases h.name_c h0 hi with⟨s,w1,w2,w3,w4,w5⟩|⟨w1,w2⟩
  .rw[dw w1,dw w1,o9 w3];refine⟨i+1,rfl,w2,rfl,fun e=>?_⟩;rw[w4,w5,e,nE,uE];exact⟨rfl,trivial⟩
  .rw[fu (by rw[w1];decide),fu (by rw[w1];decide)]
   refine⟨i,rfl,hi,rfl,fun e=>?_⟩;subst e;rw[nE,uE];exact⟨rfl,trivial⟩
end
def nfm(p:List UInt8 × Nat):List (List UInt8):=[78]::[61]::p.1::aox p.2
def dfm(p:List UInt8 × Nat):List (List UInt8):=p.1::aox p.2
def adk:∀f∈xn,(∃p∈ac3,f.1=p.2/\itB f.2=nfm p)\/(∃p∈ac6,f.1=p.2/\itB f.2=dfm p):=by
 intro f hf
 have:xn.all (fun f=>ac3.any (fun p=>f.1==p.2&&itB f.2==nfm p)||ac6.any (fun p=>f.1==p.2&&itB f.2==dfm p))=true:=by decide +kernel
 have q:=bq.1 this f hf;rw[kr]at q
 rcases q with q|q<;>obtain⟨p,h1,h2⟩:=ac8.1 q<;>simp only[au,dz]at h2
 .exact .inl ⟨p,h1,h2.1,h2.2⟩
 .exact .inr ⟨p,h1,h2.1,h2.2⟩
def axd:(∀p∈ac3,∃f∈xn,f.1=p.2/\itB f.2=nfm p)/\∀p∈ac6,∃f∈xn,f.1=p.2/\itB f.2=dfm p:=by
 have h1:ac3.all (fun p=>xn.any fun f=>f.1==p.2&&itB f.2==nfm p)=true:=by decide +kernel
 have h2:ac6.all (fun p=>xn.any fun f=>f.1==p.2&&itB f.2==dfm p)=true:=by decide +kernel
 constructor<;>intro p hp
 .obtain⟨f,f1,f2⟩:=ac8.1 (bq.1 h1 p hp);simp only[au,dz]at f2;exact⟨f,f1,f2.1,f2.2⟩
 .obtain⟨f,f1,f2⟩:=ac8.1 (bq.1 h2 p hp);simp only[au,dz]at f2;exact⟨f,f1,f2.1,f2.2⟩
def ae9:∀p∈ac3++ac6,(∃c c' s,p.1=c::c'::s/\Tok.letter c=true)/\p.2∈[1,2,3,4,5,6,7,8,9,10,11,12,13,14]:=by
 intro p hp
 have:(ac3++ac6).all (fun p=>(match p.1 with|c::_::_=>Tok.letter c|_=>false)&&decide (p.2∈[1,2,3,4,5,6,7,8,9,10,11,12,13,14]))=true:=by decide +kernel
 have q:=bq.1 this p hp;simp only[au,lm]at q;refine⟨?_,q.2⟩;have q1:=q.1;split at q1
 .rename_i c c' s e;exact⟨c,c',s,e,q1⟩
 .cases q1
def a3o:(∀p∈ac3,∀q∈ac3,p.1=q.1->p=q)/\∀p∈ac6,∀q∈ac6,p.1=q.1->p=q:=by
 have h1:ac3.all (fun p=>ac3.all fun q=>p.1 != q.1||p==q)=true:=by decide +kernel
 have h2:ac6.all (fun p=>ac6.all fun q=>p.1 != q.1||p==q)=true:=by decide +kernel
 constructor<;>intro p hp q hq e
 .have:=bq.1 (bq.1 h1 p hp) q hq;rw[kr,ny,dz]at this;exact this.resolve_left fun h=>h e
 .have:=bq.1 (bq.1 h2 p hp) q hq;rw[kr,ny,dz]at this;exact this.resolve_left fun h=>h e
def aud:∀f∈xn,∀g∈xn,itB f.2=itB g.2->f=g:=by
 have h1:xn.all (fun p=>xn.all fun q=>itB p.2 != itB q.2||(p.1==q.1&&(p.2.map (·.data))==(q.2.map (·.data))))=true:=by decide +kernel
 intro p hp q hq e;have:=bq.1 (bq.1 h1 p hp) q hq;rw[kr,ny,au,dz,dz]at this;have h:=this.resolve_left fun h=>h e
 have inj:∀(a b:List ByteArray),a.map (·.data)=b.map (·.data)->a=b:=by
  intro a
  induction a with
  |nil=>intro b hb;cases b with|nil=>rfl|cons _ _=>cases hb
  |cons x a ih=>
    intro b hb;cases b with
    |nil=>cases hb
    |cons y b=>
      rw[pq,pq]at hb;obtain⟨h1,h2⟩:=List.cons.inj hb;rw[ih b h2]
      congr 1
      cases x;cases y;dsimp only at h1;rw[h1]
 obtain⟨p1,p2⟩:=p;obtain⟨q1,q2⟩:=q;rw[show p1=q1 from h.1,show p2=q2 from inj _ _ h.2]
def ayk{L s o}(h:alj L s=some o):(s,o)∈L:=by
 unfold alj at h;cases hf:L.find? (fun p=>p.1==s)with
 |none=>rw[hf]at h;cases h
 |some p=>
   rw[hf]at h;have h1:=bhf hf;have h2:=List.find?_some hf;cases h;rw[<- eq_of_beq h2];exact h1
def atr{L s}(h:alj L s=none):∀p∈L,p.1≠s:=by
 unfold alj at h;cases hf:L.find? (fun p=>p.1==s)with
 |none=>
   intro p hp e;have:=List.find?_eq_none.1 hf p hp
   exact this (by rw[e];exact lg _)
 |some p=>rw[hf]at h;cases h
def afr(l:List Tok.T)(f:Nat × List ByteArray):Bool:=(sw l (itB f.2) 0).2&&(sw l (itB f.2) 0).1==l.length
def a7w{l f0}:∀(fs:List (Nat × List ByteArray)) (b:Nat),(∀f∈fs,f≠f0->afr l f=false/\(sw l (itB f.2) 0).1<=(sw l (itB f0.2) 0).1)->b<=(sw l (itB f0.2) 0).1->(f0∈fs\/b=(sw l (itB f0.2) 0).1)->(f0 ∉ fs->afr l f0=false)->ajl l fs b=if afr l f0=true then .inl f0 else .inr (sw l (itB f0.2) 0).1:=by
 intro fs
 induction fs with
 |nil=>
   intro b h1 h2 h3 h4
   rw[h4 (by simp)]
   rcases h3 with h3|h3
   .cases h3
   .rw[h3];rfl
 |cons f fs ih=>
   intro b h1 h2 h3 h4;rw[ajl];by_cases e:f=f0
   .subst e;by_cases hf:afr l f=true
    .have hf':((sw l (itB f.2) 0).2&&(sw l (itB f.2) 0).1==l.length)=true:=hf;rw[dw hf',dw hf]
    .have hf':¬((sw l (itB f.2) 0).2&&(sw l (itB f.2) 0).1==l.length)=true:=hf;rw[fu hf'];rw[oh]at hf
     exact ih _ (fun g hg=>h1 g (il _ hg)) (by omega) (.inr (by omega)) fun _=>hf
   .obtain⟨q1,q2⟩:=h1 f jh e
    have q1':¬((sw l (itB f.2) 0).2&&(sw l (itB f.2) 0).1==l.length)=true:=by
     have:afr l f=false:=q1;unfold afr at this;rw[this];decide
    rw[fu q1']
    refine ih _ (fun g hg=>h1 g (il _ hg)) (by omega) ?_ fun hn=>h4 fun hm=>?_
    .rcases h3 with h3|h3
     .rcases mq.1 h3 with h3|h3
      .exact absurd h3.symm e
      .exact .inl h3
     .right;omega
    .rcases mq.1 hm with hm|hm
     .exact e hm.symm
     .exact hn hm
def aqb{l M}:∀(fs:List (Nat × List ByteArray)) (b:Nat),(∀f∈fs,afr l f=false/\(sw l (itB f.2) 0).1<=M)->b<=M->(b=M\/∃f∈fs,(sw l (itB f.2) 0).1=M)->ajl l fs b=.inr M:=by
 intro fs
 induction fs with
 |nil=>
   intro b _ _ h
   rcases h with h|⟨f,hf,_⟩
   .rw[h];rfl
   .cases hf
 |cons f fs ih=>
   intro b h1 h2 h3;obtain⟨q1,q2⟩:=h1 f jh;rw[ajl]
   have q1':¬((sw l (itB f.2) 0).2&&(sw l (itB f.2) 0).1==l.length)=true:=by
    unfold afr at q1;rw[q1];decide
   rw[fu q1']
   refine ih _ (fun g hg=>h1 g (il _ hg)) (by omega) ?_
   rcases h3 with h3|⟨g,hg,h3⟩
   .left;omega
   .rcases mq.1 hg with rfl|hg
    .left;omega
    .exact .inr ⟨g,hg,h3⟩
section
variable {ts:List Tok.T} {a n:Nat} {l:List Tok.T}
theorem ayu(h:∀t∈l,ay5 t){w}(hw:∃c c' s,w=c::c'::s/\Tok.letter c=true)(is i):sw l (w::is) i=if ou l i 1 w=true then sw l is (i+1)else(i,false):=by
 obtain⟨c,c',s,rfl,hc⟩:=hw
 have nn:∀x:UInt8,((c::c'::s:List UInt8)==[x])=false:=fun x=>by rw[cz];intro e;cases e
 rw[sw,nn,nn,nn,nn,nn,a4g h hc];rfl
def Piece.nf(h:Piece ts a n l){p}(hp:p∈ac3):sw l (nfm p) 0=if ou l 0 1 []=true then(if ou l 1 3 [61]=true then(if ou l 2 1 p.1=true then sw l (aox p.2) 3 else(2,false))else(1,false))else(0,false):=by
 unfold nfm
 rw[akt,auf h.tkl _ _ (by decide) (by decide),ayu h.tkl (ae9 p (jy _ hp)).1]
def Piece.df(h:Piece ts a n l){p}(hp:p∈ac6):sw l (dfm p) 0=if ou l 0 1 p.1=true then sw l (aox p.2) 1 else(0,false):=by
 unfold dfm;rw[ayu h.tkl (ae9 p (lh _ hp)).1]
def a1h{l i k s}(h:ou l i k s=true):ou l i k []=true:=by
 unfold ou at h |-;split at h
 .cases h
 .simp only[au]at h;simp only[h.1,lg,ru,lq]
def ao4{l i k k' s s'}(h:ou l i k s=true)(hk:k≠k'):ou l i k' s'=false:=by
 unfold ou at h |-;split at h
 .cases h
 .simp only[au,dz]at h
  have:∀t:Tok.T,t.kind=k->(t.kind==k')=false:=fun t e=>by rw[e,cz];exact hk
  rw[this _ h.1,ll]
def azd{l i k s s'}(h:ou l i k s=true)(hs:s≠[])(hs':s'≠[])(hn:s≠s'):ou l i k s'=false:=by
 unfold ou at h |-;split at h
 .cases h
 .rename_i t _;simp only[au,kr,dz]at h;have h2:=h.2.resolve_left hs
  have e1:(s'==([]:List UInt8))=false:=by rw[cz];exact hs'
  have e2:(t.text==s')=false:=by rw[cz,h2];exact hn
  rw[e1,e2,a7h,qy]
def Piece.forms(h:Piece ts a n l):a7g l:=by
 intro f hf hfull;rw[h.len]at hfull;simp only[au,dz]at hfull
 have fin:∀{op i:Nat},op∈[1,2,3,4,5,6,7,8,9,10,11,12,13,14]->0<i->i<=n->sw l (aox op) i=(n,true)->a0n op (o5 [] (l.drop i)):=fun {op i} ho i1 i2 e=>by
  have q:=bc6 h (N:=n+1) (abm _) ho ⟨#[]⟩ i1 i2;rw[e]at q;unfold afi at q;split at q
  .obtain⟨j,_,q⟩:=q;cases q
  .obtain⟨j,_,_,q,p⟩:=q;cases q;exact(p rfl).2
 have pair:∀{x:Nat × Bool},x.2=true/\x.1=n->x=(n,true):=fun {x} ⟨q1,q2⟩=>by obtain⟨x1,x2⟩:=x;dsimp only at q1 q2;rw[q1,q2]
 have hi0:(f.2.getD 0 ⟨#[]⟩).data.toList=(itB f.2).getD 0 []:=by
  unfold itB;cases f.2 with
  |nil=>rfl
  |cons x xs=>rfl
 unfold aua;rw[hi0]
 rcases adk f hf with⟨p,hp,e1,e2⟩|⟨p,hp,e1,e2⟩
 .rw[e2,h.nf hp]at hfull;rw[e2,dw (show(nfm p).getD 0 []=[78]from rfl),e1];by_cases w0:ou l 0 1 []=true
  .rw[dw w0]at hfull;by_cases w1:ou l 1 3 [61]=true
   .rw[dw w1]at hfull;by_cases w2:ou l 2 1 p.1=true
    .rw[dw w2]at hfull;have q:=pair hfull
     have h2n:2<n:=by have:=ry w2;rwa[h.len]at this
     have k0:(Vw.of ts).kind a=1:=by
      rw[h.wd0]at w0;simp only[au,dz]at w0;exact w0.1
     rcases h.name_c (i:=2) (by omega) (by omega)with⟨s,_,_,_,n4,_⟩|⟨v1,_⟩
     .rcases h.sign_c (i:=1) (by omega) (by omega) (s:=[61]) rfl with⟨_,_,_,_,c5,_⟩|⟨c1,_⟩
      .have n0:=h.nm (i:=0) (by omega)
       rw[o7,dw k0,c5,n4]at n0;rw[dx]at n0;rw[n0]
       exact⟨by simp,fin (ae9 p (jy _ hp)).2 (by omega) (by omega) q⟩
      .rw[w1]at c1;cases c1
     .rw[a1h w2]at v1;cases v1
    .rw[fu w2]at hfull;cases hfull.1
   .rw[fu w1]at hfull;cases hfull.1
  .rw[fu w0]at hfull;cases hfull.1
 .rw[e2,h.df hp]at hfull;obtain⟨⟨c,c',s,ew,hc⟩,ho⟩:=ae9 p (lh _ hp)
  have hne:(dfm p).getD 0 []≠[78]:=by unfold dfm;rw[ew];intro e;cases e
  rw[e2,fu hne,e1];by_cases w0:ou l 0 1 p.1=true
  .rw[dw w0]at hfull;have q:=pair hfull;have hpos:=h.pos
   have k0:(Vw.of ts).kind a=1:=by
    rw[h.wd0]at w0;simp only[au,dz]at w0;exact w0.1
   have n0:=h.nm (i:=0) hpos;rw[o7,dw k0,dx]at n0;rw[n0]
   exact⟨by simp,fin ho (by omega) (by omega) q⟩
  .rw[fu w0]at hfull;cases hfull.1
end
def bea{l pr cl}:∀(n:Nat) {a:Nat},a<=(aow l pr cl n a).1:=by
 intro n
 induction n with
 |zero=>intro a;exact aj _
 |succ n ih=>
   intro a;rw[aow];split
   .split
    .exact bdn _
    .split
     .show a<=a+2;omega
     .obtain⟨b,hb⟩:∃b,(if pr=true then a+3 else a+1)=b:=⟨_,rfl⟩
      have hab:a<=b:=by rw[<- hb];split<;>omega
      rw[hb];dsimp only;split
      .show a<=b+1;omega
      .split
       .have:=ih (a:=b+1);omega
       .exact hab
   .exact aj _
def beb{l pr cl a}:a<=(alx l pr cl a).1:=by
 unfold alx;split
 .exact bdn _
 .exact bea _
def arv{l}:∀(is:List (List UInt8)) {a:Nat},a<=(sw l is a).1:=by
 intro is
 induction is with
 |nil=>intro a;exact aj _
 |cons it is ih=>
   intro a;have i1:=ih (a:=a+1);rw[sw];split
   .split
    .omega
    .exact aj _
   .split
    .split
     .omega
     .exact aj _
    .split
     .dsimp only;split<;>omega
     .split
      .split
       .have B:a+1<=(alx l (it==[91]) (if(it==[91])=true then[93]else[41]) (a+1)).1:=beb
        revert B
        generalize alx l (it==[91]) (if(it==[91])=true then[93]else[41]) (a+1)=r
        intro B;split
        .have:=ih (a:=r.1);omega
        .show a<=r.1;omega
       .exact aj _
      .split
       .omega
       .exact aj _
section
variable {ts:List Tok.T} {a n:Nat} {l:List Tok.T}
theorem Piece.sec(h:Piece ts a n l){s}(hs:(s==[])=false):aqh (Vw.of ts) s a=((Vw.of ts).kind a==1&&ou l 1 3 s):=by
 rw[h.wd (i:=1) (by omega) h.pos (by decide),hs,qo]
 unfold aqh;cases(Vw.of ts).kind a==1<;>cases(Vw.of ts).kind (a+1)==3<;>cases(Vw.of ts).text (a+1)==s<;>cases(Vw.of ts).same (a+1)<;>rfl
def a6k{p}(hp:p∈ac6)(w:ou l 1 1 []=false):(sw l (aox p.2) 1).1<=1:=by
 unfold ac6 at hp;simp only[mq,xq,aiu]at hp
 rcases hp with rfl|rfl|rfl|rfl|rfl|rfl
 all_goals first
  |(show(sw l [[63]] 1).1<=1;rw[bj3,w];exact aj _)
  |(show(sw l ([78]::_) 1).1<=1;rw[akt,w];exact aj _)
theorem bch(s):(bOf s).data.toList=s:=rfl
theorem bfx(h:Piece ts a n l){N}(hN:n<N)(k1:(Vw.of ts).kind a=1):match agh (Vw.of ts) N a with
 |.error e=>∃j,e=a+j/\ajl l xn 1=.inr j
 |.ok (x,c)=>∃j,c=a+j/\j<=n/\0<j/\(j=n->∃f,ajl l xn 1=.inl f/\aw9 f.1 (f.2.getD 0 ⟨#[]⟩).data.toList (o5 [] l) (aex 0 l)=x)/\(j<n->ajl l xn 1=.inr j):=by
 have hpos:=h.pos
 have w0:ou l 0 1 []=true:=by rw[h.wd0,k1];rfl
 have htx:∃c s,(Vw.of ts).text a=c::s:=by
  have:=h.le
  have hm:ts.getD a tkE∈ts:=by
   rw[jm,af (by omega)]
   exact xu _
  obtain⟨c,s,e,_⟩:=(h.tk _ hm).1 k1;exact⟨c,s,e⟩
 have hi0:∀f:Nat × List ByteArray,(f.2.getD 0 ⟨#[]⟩).data.toList=(itB f.2).getD 0 []:=fun f=>by
  unfold itB;cases f.2 with
  |nil=>rfl
  |cons x xs=>rfl
 have nofull:∀{f:Nat × List ByteArray},(sw l (itB f.2) 0).2=false->afr l f=false:=fun {f} e=>by unfold afr;rw[e,ll]
 have nm0:=h.nm (i:=0) hpos;rw[o7,dw k1,dx]at nm0;have nu0:=h.nu (i:=0) hpos 0
 rw[o7,fu (by omega),dx]at nu0
 have done:∀{op i:Nat} {f0:Nat × List ByteArray} {d:ByteArray},op∈[1,2,3,4,5,6,7,8,9,10,11,12,13,14]->0<i->i<=n->f0∈xn->sw l (itB f0.2) 0=sw l (aox op) i->(∀f∈xn,f≠f0->afr l f=false/\(sw l (itB f.2) 0).1<=(sw l (itB f0.2) 0).1)->aw9 f0.1 (f0.2.getD 0 ⟨#[]⟩).data.toList (o5 [] l) (aex 0 l)=ao0 op d (o5 [] (l.drop i)) (aex 0 (l.drop i))->
  match opT (Vw.of ts) N op { aha with op:=op,d:=d } (a+i)with
  |.error e=>∃j,e=a+j/\ajl l xn 1=.inr j
  |.ok (x,c)=>∃j,c=a+j/\j<=n/\0<j/\(j=n->∃f,ajl l xn 1=.inl f/\aw9 f.1 (f.2.getD 0 ⟨#[]⟩).data.toList (o5 [] l) (aex 0 l)=x)/\(j<n->ajl l xn 1=.inr j):=by
  intro op i f0 d ho i1 i2 hf e1 hall e2
  have hge:i<=(sw l (itB f0.2) 0).1:=by rw[e1];exact arv _
  have hone:=a7w (l:=l) (f0:=f0) xn 1 hall (by omega) (.inl hf) (fun h=>absurd hf h)
  have q:=bc6 h hN ho d i1 i2;rw[<- e1]at q;revert q;cases opT (Vw.of ts) N op { aha with op:=op,d:=d } (a+i)with
  |error e=>
    rintro⟨j,q1,q2⟩;refine⟨j,q1,?_⟩
    have:afr l f0=false:=nofull (by rw[q2])
    rw[hone,this,q2];rfl
  |ok p=>
    obtain⟨x,c⟩:=p;rintro⟨j,q1,q2,q3,q4⟩;rw[q3]at hge
    have hfu:afr l f0=(j==n):=by unfold afr;rw[q3,h.len];rfl
    refine⟨j,q1,q2,by have:i<=j:=hge;omega,fun e=>⟨f0,?_,?_⟩,fun e=>?_⟩
    .rw[hone,hfu,e,lg];rfl
    .rw[e2,(q4 e).1]
    .have:(j==n)=false:=by rw[cz];omega
     rw[hone,hfu,this,q3];rfl
 unfold agh;rw[h.sec rfl,k1];cases hq:ou l 1 3 [61]with
 |true=>
   have w11:ou l 1 1 []=false:=ao4 hq (by decide)
   have h2n:2<=n:=by have:=ry hq;rw[h.len]at this;omega
   have hN2:∀p∈ac3,ou l 2 1 p.1=false->sw l (nfm p) 0=(2,false):=fun p hp e=>by
    rw[h.nf hp,w0,hq,e];rfl
   have hD1:∀p∈ac6,(sw l (dfm p) 0).1<=1:=fun p hp=>by
    rw[h.df hp];split
    .exact a6k hp w11
    .exact jo _
   have hDf:∀{f:Nat × List ByteArray} {p},p∈ac6->itB f.2=dfm p->afr l f=false:=fun {f p} hp e=>by
    unfold afr;rw[e,h.len];have:=hD1 p hp
    have:((sw l (dfm p) 0).1==n)=false:=by rw[cz];omega
    rw[this,qy]
   have allno:(∀p∈ac3,ou l 2 1 p.1=false)->ajl l xn 1=.inr 2:=fun hh=>by
    refine aqb xn 1 (fun f hf=>?_) (by omega) (.inr ?_)
    .rcases adk f hf with⟨p,hp,_,e2⟩|⟨p,hp,_,e2⟩
     .have:=hN2 p hp (hh p hp)
      exact⟨nofull (by rw[e2,this]),by rw[e2,this];exact aj _⟩
     .exact⟨hDf hp e2,by rw[e2];have:=hD1 p hp;omega⟩
    .obtain⟨f,hf,_,e2⟩:=axd.1 ([97,108,108,111,99,97],1) (by decide)
     have hp:(([97,108,108,111,99,97],1):List UInt8 × Nat)∈ac3:=by decide
     exact⟨f,hf,by rw[e2,hN2 _ hp (hh _ hp)]⟩
   rw[show((1:Nat)==1&&true)=true from rfl,dw rfl]
   have wd2:∀s,ou l 2 1 s=(((Vw.of ts).same (a+2)&&(Vw.of ts).kind (a+2)==1)&&(s==[]||(Vw.of ts).text (a+2)==s)):=fun s=>h.wd (by omega) h2n (by decide) s
   have pne:∀p∈ac3,(p.1==([]:List UInt8))=false:=fun p hp=>by
    obtain⟨⟨c,c',s,e,_⟩,_⟩:=ae9 p (jy _ hp);rw[e];rfl
   by_cases hs:(Vw.of ts).same (a+2)=true
   .rw[dw hs];unfold a7m;cases hlk:alj ac3 ((Vw.of ts).text (a+2))with
    |none=>
      obtain⟨c,s,e⟩:=htx;rw[bch,e];dsimp only
      rw[fu (by simp)]
      refine⟨2,rfl,allno fun p hp=>?_⟩;have hne:=atr hlk p hp
      have:((Vw.of ts).text (a+2)==p.1)=false:=by rw[cz];exact fun e=>hne e.symm
      rw[wd2,pne p hp,this,a7h,qy]
    |some o=>
      have hm:=ayk hlk;dsimp only;by_cases hk2:(Vw.of ts).kind (a+2)=1
      .rw[dw hk2]
       have w2:ou l 2 1 ((Vw.of ts).text (a+2))=true:=by rw[wd2,hs,hk2,lg,lg,afm];rfl
       have h3n:3<=n:=by have:=ry w2;rw[h.len]at this;omega
       obtain⟨f0,hf0,e1,e2⟩:=axd.1 _ hm
       have efar:sw l (itB f0.2) 0=sw l (aox o) 3:=by rw[e2,h.nf hm,w0,hq,w2];rfl
       have hge:3<=(sw l (itB f0.2) 0).1:=by rw[efar];exact arv _
       refine done (ae9 _ (jy _ hm)).2 (by omega) h3n hf0 efar (fun f hf hne=>?_) ?_
       .rcases adk f hf with⟨p,hp,_,e4⟩|⟨p,hp,_,e4⟩
        .have w2f:ou l 2 1 p.1=false:=by
          cases hw:ou l 2 1 p.1 with
          |false=>rfl
          |true=>
            exfalso;rw[wd2,pne p hp,qo]at hw;simp only[au,dz]at hw;have:=a3o.1 _ hm p hp hw.2
            exact hne (aud f hf f0 hf0 (by rw[e4,e2,this]))
         have:=hN2 p hp w2f
         exact⟨nofull (by rw[e4,this]),by rw[e4,this];show 2<=_;omega⟩
        .exact⟨hDf hp e4,by rw[e4];have:=hD1 p hp;omega⟩
       .rw[hi0,e2,e1];unfold aw9;rw[dw (show(nfm ((Vw.of ts).text (a+2),o)).getD 0 []=[78]from rfl)]
        rcases h.sign_c (i:=1) (by omega) (by omega) (s:=[61]) rfl with⟨_,_,_,_,c5,c6⟩|⟨c1,_⟩
        .have n2:=h.nm (i:=2) (by omega)
         have u2:=h.nu (i:=2) (by omega) 0
         rw[dw hk2]at n2
         rw[fu (by omega)]at u2
         rw[nm0,c5,n2,nu0,c6,u2];rfl
        .rw[hq]at c1;cases c1
      .rw[fu hk2];refine⟨2,rfl,allno fun p hp=>?_⟩
       have:((Vw.of ts).kind (a+2)==1)=false:=by rw[cz];exact hk2
       rw[wd2,this,qy,ll]
   .rw[fu hs];rw[oh]at hs
    exact⟨2,rfl,allno fun p _=>by rw[wd2,hs,ll,ll]⟩
 |false=>
   rw[show((1:Nat)==1&&false)=false from rfl,fu aaj]
   have hN1:∀p∈ac3,sw l (nfm p) 0=(1,false):=fun p hp=>by
    rw[h.nf hp,w0,hq];rfl
   have wd0:∀p∈ac6,ou l 0 1 p.1=((Vw.of ts).text a==p.1):=fun p hp=>by
    obtain⟨⟨c,c',s,e,_⟩,_⟩:=ae9 p (lh _ hp);rw[h.wd0,k1,e];rfl
   unfold a7m;cases hlk:alj ac6 ((Vw.of ts).text a)with
   |none=>
     dsimp only;rw[dw rfl];refine⟨1,rfl,aqb xn 1 (fun f hf=>?_) (aj _) (.inl rfl)⟩
     rcases adk f hf with⟨p,hp,_,e2⟩|⟨p,hp,_,e2⟩
     .have:=hN1 p hp
      exact⟨nofull (by rw[e2,this]),by rw[e2,this];exact aj _⟩
     .have hne:=atr hlk p hp
      have e:((Vw.of ts).text a==p.1)=false:=by rw[cz];exact fun e=>hne e.symm
      have:sw l (dfm p) 0=(0,false):=by rw[h.df hp,wd0 p hp,e];rfl
      exact⟨nofull (by rw[e2,this]),by rw[e2,this];exact jo _⟩
   |some o=>
     have hm:=ayk hlk;dsimp only;rw[dw k1];obtain⟨f0,hf0,e1,e2⟩:=axd.2 _ hm
     have efar:sw l (itB f0.2) 0=sw l (aox o) 1:=by rw[e2,h.df hm,wd0 _ hm,lg];rfl
     have hge:1<=(sw l (itB f0.2) 0).1:=by rw[efar];exact arv _
     refine done (ae9 _ (lh _ hm)).2 (by omega) hpos hf0 efar (fun f hf hne=>?_) ?_
     .rcases adk f hf with⟨p,hp,_,e4⟩|⟨p,hp,_,e4⟩
      .have:=hN1 p hp
       exact⟨nofull (by rw[e4,this]),by rw[e4,this];exact hge⟩
      .have e:((Vw.of ts).text a==p.1)=false:=by
        rw[cz];intro e;have:=a3o.2 _ hm p hp e
        exact hne (aud f hf f0 hf0 (by rw[e4,e2,this]))
       have:sw l (dfm p) 0=(0,false):=by rw[h.df hp,wd0 p hp,e];rfl
       exact⟨nofull (by rw[e4,this]),by rw[e4,this];exact jo _⟩
     .rw[hi0,e2,e1];unfold aw9;obtain⟨⟨c,c',s,ew,_⟩,_⟩:=ae9 _ (lh _ hm)
      rw[fu (by unfold dfm;rw[ew];intro e;cases e),nm0,nu0]
      rfl
end
section
variable {ts:List Tok.T} {a n:Nat} {l:List Tok.T}
theorem Piece.en(h:Piece ts a n l):sw l (itB enI) 0=if((Vw.of ts).kind a==3&&(Vw.of ts).text a==[125])=true then(1,true)else(0,false):=by
 show sw l ([125]::[]) 0=_
 rw[auf h.tkl _ _ (by decide) (by decide),h.wd0,show(([125]:List UInt8)==[])=false from rfl,qo]
 rfl
def Piece.lb(h:Piece ts a n l):sw l (itB lbI) 0=if(Vw.of ts).kind a=1 then(if aqh (Vw.of ts) [58] a=true then(2,true)else(1,false))else(0,false):=by
 show sw l ([78]::[58]::[]) 0=_
 rw[akt,auf h.tkl _ _ (by decide) (by decide),h.wd0,show(([]:List UInt8)==[])=true from rfl,ru,gy,h.sec rfl]
 by_cases k1:(Vw.of ts).kind a=1
 .rw[dw (by rw[k1];rfl),dw k1,k1]
  rfl
 .rw[fu (by rw[dz];exact k1),fu k1]
def Piece.no0(h:Piece ts a n l)(k1:(Vw.of ts).kind a≠1)(b):ajl l xn b=.inr b:=by
 have w0:∀s,ou l 0 1 s=false:=fun s=>by
  rw[h.wd0]
  have:((Vw.of ts).kind a==1)=false:=by rw[cz];exact k1
  rw[this,ll]
 refine aqb xn b (fun f hf=>?_) (aj _) (.inl rfl)
 have:sw l (itB f.2) 0=(0,false):=by
  rcases adk f hf with⟨p,hp,_,e2⟩|⟨p,hp,_,e2⟩
  .rw[e2,h.nf hp,w0];rfl
  .rw[e2,h.df hp,w0];rfl
 exact⟨by unfold afr;rw[this];rfl,by rw[this];exact jo _⟩
def Piece.no2(h:Piece ts a n l)(hc:ou l 1 3 [58]=true)(h2:2<n):ajl l xn 2=.inr 2:=by
 have w11:ou l 1 1 []=false:=ao4 hc (by decide)
 have w61:ou l 1 3 [61]=false:=azd hc (by decide) (by decide) (by decide)
 refine aqb xn 2 (fun f hf=>?_) (aj _) (.inl rfl)
 have hle:(sw l (itB f.2) 0).1<=1:=by
  rcases adk f hf with⟨p,hp,_,e2⟩|⟨p,hp,_,e2⟩
  .rw[e2,h.nf hp,w61];split
   .exact aj _
   .exact jo _
  .rw[e2,h.df hp];split
   .exact a6k hp w11
   .exact jo _
 refine⟨?_,by omega⟩
 unfold afr;rw[h.len]
 have:((sw l (itB f.2) 0).1==n)=false:=by rw[cz];omega
 rw[this,qy]
end
theorem a2t{ts gs f a n t l}(hn:age t.line (ts.drop (a+1))+1=n)(hl:(ts.drop a).take n=l):a08 ts gs (some f) a t=(if((sw l (itB enI) 0).2&&(sw l (itB enI) 0).1==n)=true then .ok (gs++[f],none,a+n)
 else if((sw l (itB lbI) 0).2&&(sw l (itB lbI) 0).1==n)=true then .ok (gs,some ⟨f.name,f.ps,f.blocks++[⟨⟨(l.getD 0 tkE).text.toArray⟩,[]⟩]⟩,a+n)
 else match(if f.blocks=[]then .inr (max (sw l (itB enI) 0).1 (sw l (itB lbI) 0).1)else ajl l xn (max (sw l (itB enI) 0).1 (sw l (itB lbI) 0).1))with
  |.inl g=>.ok (gs,some ⟨f.name,f.ps,addI f.blocks (aw9 g.1 (g.2.getD 0 ⟨#[]⟩).data.toList (o5 [] l) (aex 0 l))⟩,a+n)
  |.inr be=>.error (a+be)):=by
 unfold a08;rw[hn];dsimp only;rw[hl]
 try rfl
theorem as6{ts gs a n t l}(hn:age t.line (ts.drop (a+1))+1=n)(hl:(ts.drop a).take n=l):a08 ts gs none a t=(if(!(sw l (itB hdI) 0).2||decide ((sw l (itB hdI) 0).1<n))=true then .error (a+(sw l (itB hdI) 0).1)else .ok (gs,some ⟨⟨(l.getD 1 tkE).text.toArray⟩,o5 [] (l.drop 2),[]⟩,a+n)):=by
 unfold a08;rw[hn];dsimp only;rw[hl]
 try rfl
def ahw{ts n a gs cur}(h4:(Vw.of ts).kind a≠4):ajh ts (n+1) gs cur a=match a08 ts gs cur a (ts.getD a tkE)with
 |.error e=>.error e
 |.ok (gs',cur',b)=>ajh ts n gs' cur' b:=by
 rw[ajh];exact fu h4
def bkc{ts}(hE:alk ts)(tk:∀t∈ts,ay5 t){N}(hN:ts.length<N)(nm ps):∀(m n:Nat) (gs:List FunD) (bs:List BlkD) (a:Nat),a<ts.length->ts.length<=a+m->ts.length<=a+n->ap0 (Vw.of ts) a=false->
 match apz (Vw.of ts) N nm ps m bs a with
 |.error e=>ajh ts n gs (some ⟨nm,ps,bs⟩) a=.error e
 |.ok (f,c)=>∃n',n'<n/\ajh ts n gs (some ⟨nm,ps,bs⟩) a=ajh ts n' (gs++[f]) none c/\c<ts.length/\ts.length<=c+n'/\a<c/\ap0 (Vw.of ts) c=false:=by
 intro m
 induction m with
 |zero=>intro n gs bs a ha hm;omega
 |succ m ih=>
   intro n gs bs a ha hm hn hb
   obtain⟨n,rfl⟩:∃k,n=k+1:=⟨n-1,by omega⟩
   rw[apz,fu (by rw[hb];decide)]
   by_cases h4:(Vw.of ts).kind a=4
   .have e3:((Vw.of ts).kind a==3)=false:=by rw[h4];rfl
    have e1:((Vw.of ts).kind a==1)=false:=by rw[h4];rfl
    have es:aqh (Vw.of ts) [58] a=false:=by unfold aqh;rw[e1,ll]
    have e2:((Vw.of ts).kind a != 1)=true:=by rw[h4];rfl
    rw[e3,ll,fu aaj,es,fu aaj,e2,ru,dw rfl,fu (by omega)]
    show ajh ts (n+1) gs _ a=.error a;rw[ajh];have:(ts.getD a tkE).kind=4:=h4;rw[dw this];rfl
   .have h0:ts[a]?=some (ts.getD a tkE):=by rw[jm,af ha];rfl
    have hP:=ama hE tk h0 h4;obtain⟨k,hk⟩:∃k,age (ts.getD a tkE).line (ts.drop (a+1))+1=k:=⟨_,rfl⟩;obtain⟨l,hl⟩:∃l,(ts.drop a).take k=l:=⟨_,rfl⟩;rw[hk,hl]at hP;have hle:=hP.le;have hpos:=hP.pos;have rS:=fun(bs:List BlkD)=>a2t (gs:=gs) (f:=⟨nm,ps,bs⟩) hk hl
    have more:∀(bs:List BlkD) (j:Nat),0<j->j<k->apz (Vw.of ts) N nm ps m bs (a+j)=.error (a+j):=fun bs j j1 j2=>by
     obtain⟨m',rfl⟩:∃x,m=x+1:=⟨m-1,by omega⟩
     rw[apz,hP.beg j1 (by omega),yg j2,dw rfl]
    have last:ap0 (Vw.of ts) (a+k)=false:=by rw[hP.beg hpos (aj _),uz (acg _)]
    have go:∀(bs':List BlkD),a08 ts gs (some ⟨nm,ps,bs⟩) a (ts.getD a tkE)=.ok (gs,some ⟨nm,ps,bs'⟩,a+k)->match apz (Vw.of ts) N nm ps m bs' (a+k)with
     |.error e=>ajh ts (n+1) gs (some ⟨nm,ps,bs⟩) a=.error e
     |.ok (f,c)=>∃n',n'<n+1/\ajh ts (n+1) gs (some ⟨nm,ps,bs⟩) a=ajh ts n' (gs++[f]) none c/\c<ts.length/\ts.length<=c+n'/\a<c/\ap0 (Vw.of ts) c=false:=fun bs' e=>by
     have q:=ih n gs bs' (a+k) hle (by omega) (by omega) last
     have er:ajh ts (n+1) gs (some ⟨nm,ps,bs⟩) a=ajh ts n gs (some ⟨nm,ps,bs'⟩) (a+k):=by rw[ahw h4,e]
     revert q;cases apz (Vw.of ts) N nm ps m bs' (a+k)with
     |error e=>intro q;exact er.trans q
     |ok p=>
       obtain⟨f,c⟩:=p;rintro⟨n',q1,q2,q3,q4,q5,q6⟩
       exact⟨n',by omega,er.trans q2,q3,q4,by omega,q6⟩
    have bad:∀e,a08 ts gs (some ⟨nm,ps,bs⟩) a (ts.getD a tkE)=.error e->ajh ts (n+1) gs (some ⟨nm,ps,bs⟩) a=.error e:=fun e he=>by rw[ahw h4,he]
    by_cases hend:((Vw.of ts).kind a==3&&(Vw.of ts).text a==[125])=true
    .have k1:(Vw.of ts).kind a≠1:=by
      simp only[au,dz]at hend;omega
     rw[dw hend];have e0:=hP.en;rw[dw hend]at e0;have e1:=hP.lb;rw[fu k1]at e1;by_cases h1k:1<k
     .have:ap0 (Vw.of ts) (a+1)=true:=by rw[hP.beg (by omega) hpos,yg h1k]
      rw[dw this];refine bad _ ?_
      have n1:((1:Nat)==k)=false:=by rw[cz];omega
      rw[rS,e0,e1];dsimp only;simp only[n1,qy,ll,ic,ky,hP.no0 k1];split
      .rename_i g hg;split at hg<;>cases hg
      .rename_i be hg;split at hg<;>cases hg<;>rfl
     .obtain rfl:k=1:=by omega
      rw[fu (by rw[last];decide)]
      refine⟨n,abm _,?_,hle,by omega,abm _,last⟩
      rw[ahw h4,rS,e0];rfl
    .rw[fu hend];have e0:=hP.en;rw[fu hend]at e0;have e1:=hP.lb;by_cases hsec:aqh (Vw.of ts) [58] a=true
     .rw[dw hsec];have hs:=hsec;rw[hP.sec rfl]at hs;simp only[au,dz]at hs;rw[dw hs.1,dw hsec]at e1
      have h2k:2<=k:=by have:=ry hs.2;rw[hP.len]at this;omega
      by_cases hk2:2<k
      .have:=more (bs++[⟨bOf ((Vw.of ts).text a),[]⟩]) 2 (by omega) hk2
       rw[this];refine bad _ ?_
       have n2:((2:Nat)==k)=false:=by rw[cz];omega
       rw[rS,e0,e1];dsimp only;have q2:ajl l xn (max 0 2)=.inr 2:=hP.no2 hs.2 hk2;simp only[n2,qy,ll,ic,ky,q2];split
       .rename_i g hg;split at hg<;>cases hg
       .rename_i be hg;split at hg<;>cases hg<;>rfl
      .obtain rfl:k=2:=by omega
       refine go _ ?_
       have g0:l.getD 0 tkE=ts.getD a tkE:=by
        have:=hP.at hpos;rw[o7]at this;rw[jm,this];rfl
       rw[rS,e0,e1,g0];rfl
     .rw[fu hsec]
      by_cases hno:((Vw.of ts).kind a != 1||bs.length==0)=true
      .rw[dw hno];by_cases k1:(Vw.of ts).kind a=1
       .rw[dw k1]
        have hbs:bs=[]:=by
         rw[k1,show((1:Nat) != 1)=false from rfl,qo,dz]at hno;exact jb hno
        subst hbs;rw[dw k1,fu hsec]at e1;refine bad _ ?_;rw[rS,e0,e1];rfl
       .rw[fu k1];rw[fu k1]at e1;refine bad _ ?_;rw[rS,e0,e1];simp only[ll,ic,ky,hP.no0 k1];split
        .rename_i g hg;split at hg<;>cases hg
        .rename_i be hg;split at hg<;>cases hg<;>rfl
      .rw[fu hno];rw[kr,bjj,ny,aez,dz]at hno
       have hbs:bs≠[]:=fun e=>hno.2 (by rw[e];rfl)
       have k1:=hno.1;rw[dw k1,fu hsec]at e1
       have q:=bfx hP (N:=N) (by omega) k1
       have rS2:a08 ts gs (some ⟨nm,ps,bs⟩) a (ts.getD a tkE)=(match ajl l xn 1 with
        |.inl g=>.ok (gs,some ⟨nm,ps,addI bs (aw9 g.1 (g.2.getD 0 ⟨#[]⟩).data.toList (o5 [] l) (aex 0 l))⟩,a+k)
        |.inr be=>.error (a+be)):=by
        rw[rS,e0,e1];simp only[ll,ic,ky,hbs];rfl
       revert q;cases hi:agh (Vw.of ts) N a with
       |error e=>
         rintro⟨j,rfl,q⟩;rw[ui hi]
         exact bad _ (by rw[rS2,q])
       |ok p=>
         obtain⟨x,c⟩:=p;rintro⟨j,rfl,q1,q0,q2,q3⟩;rw[o9 hi];by_cases hj:j=k
         .subst hj;obtain⟨f,q4,q5⟩:=q2 rfl;refine go _ ?_;rw[rS2,q4];dsimp only;rw[q5]
         .have hjk:j<k:=by omega
          rw[more _ j q0 hjk]
          exact bad _ (by rw[rS2,q3 hjk])
abbrev a0k:Nat:=19
def K19_0:=[1,2]++List.range' 4 193
def R19_0t2:=[bm2 4 (bml 0)]
def R19_0t1:=q 3 (.alloc [bmu,bmu])::R19_0t2
def R19_0p0:=[bm2 2 bmq]
def R19_0:=R19_0p0++R19_0t1
def K19_0p0:=List.range' 1 196
def X19_0(call:o8)(it:zn)(base f H):evC call it base (.region R19_0 [] K19_0) f H=bg6 call it base R19_0t1 K19_0 H (yc (aaw R19_0p0 K19_0p0 []) K19_0p0 f H) (agb call it base R19_0 K19_0 f H):=awf call it base R19_0p0 R19_0t1 (by kernel_rfl) f H
def R19_1:=[oM 11 0,q 12 (.lenS .p (.t 11)),q 13 (.bin .gtr (.t 12) (bml 1048576))]
def R19_2t2:=[bm2 4 (bml 2)]
def R19_2t1:=bmy 2 3 14::R19_2t2
def R19_2p0:=[q 14 (.build [bmu,bmu] [(0,1),(1,1)] []),bm2 2 bmq]
def R19_2:=R19_2p0++R19_2t1
def R19_3:=[bm2 5 bmq]
def R19_4:=[bm2 6 (bml 0)]
def R19_5:=[oM 15 6,oM 16 0,q 17 (.lenS .p (.t 16)),q 18 (.bin .lss (.t 15) (.t 17))]
def R19_6:=[oM 19 0,oM 20 6,q 21 (.indexStr (.t 19) (.t 20)),oM 7 21]
def R19_7:=[oM 22 6,oM 8 22]
def R19_8:=[oM 27 7,q 28 (.bin .eql (.t 27) (bmm 32)),oM 29 28,gM 30 7 29 false,qg 31 (.bin .eql (.t 30) (bmm 9)) 29 false,bm6 32 (.t 29) bmn (.t 31),oM 33 32,gM 34 7 33 false,qg 35 (.bin .eql (.t 34) (bmm 13)) 33 false,bm6 36 (.t 33) bmn (.t 35),oM 37 36,gM 38 7 37 false,qg 39 (.bin .eql (.t 38) (bmm 10)) 37 false,bm6 40 (.t 37) bmn (.t 39),oM 26 40]
def R19_9:=[oM 41 6,q 42 (.bin .add (.t 41) (bml 1)),oM 6 42]
def R19_10:=[oM 44 7,q 45 (.bin .eql (.t 44) (bmm 59)),oM 43 45]
def R19_11:=[oM 46 6,oM 47 0,q 48 (.lenS .p (.t 47)),q 49 (.bin .lss (.t 46) (.t 48)),oM 50 49,gM 51 0 50 true,gM 52 6 50 true,qg 53 (.indexStr (.t 51) (.t 52)) 50 true,qg 54 (.bin .neq (.t 53) (bmm 10)) 50 true,bm6 55 (.t 50) (.t 54) bmo]
def R19_12:=[oM 56 6,q 57 (.bin .add (.t 56) (bml 1)),oM 6 57]
def aj6:ACode:=
 (.seq (.seq (.regionE R19_11 [46,47,48,49,50,51,52,53,54] [55])
 (.cond (.t 55)
 .skip
 (.exit 3)))
 (.block 4
 (.regionE R19_12 [55,56,57] [6])))
def aqy:ACode:=aj6
def R19_13t2:=[oM 58 60]
def R19_13t1:=bmz 60 40 [.t 59]::R19_13t2
def R19_13p0:=[oM 59 7]
def R19_13:=R19_13p0++R19_13t1
def R19_14t10:=[qg 75 (.pick (.t 70) bmn (.t 74)) 65 true,gM 76 75 65 true,gM 77 0 76 false,gM 78 6 76 false,qg 79 (.indexStr (.t 77) (.t 78)) 76 false,qg 80 (.bin .eql (.t 79) (bmm 46)) 76 false,qg 81 (.pick (.t 76) bmn (.t 80)) 65 true,bm6 82 (.t 65) (.t 81) bmo]
def R19_14t9:=qg 74 (.call (.c (.fn 41 [] [])) [.t 73]) 70 false::R19_14t10
def R19_14t8:=qg 73 (.indexStr (.t 71) (.t 72)) 70 false::R19_14t9
def R19_14t7:=gM 72 6 70 false::R19_14t8
def R19_14t6:=gM 71 0 70 false::R19_14t7
def R19_14t5:=gM 70 69 65 true::R19_14t6
def R19_14t4:=qg 69 (.call (.c (.fn 40 [] [])) [.t 68]) 65 true::R19_14t5
def R19_14t3:=qg 68 (.indexStr (.t 66) (.t 67)) 65 true::R19_14t4
def R19_14t2:=gM 67 6 65 true::R19_14t3
def R19_14t1:=gM 66 0 65 true::R19_14t2
def R19_14p0:=[oM 61 6,oM 62 0,q 63 (.lenS .p (.t 62)),q 64 (.bin .lss (.t 61) (.t 63)),oM 65 64]
def R19_14:=R19_14p0++R19_14t1
def R19_15:=[oM 83 6,q 84 (.bin .add (.t 83) (bml 1)),oM 6 84]
def aj5:ACode:=
 (.seq (.seq (.region R19_14 [] [61,62,63,64,65,66,67,68,69,70,71,72,73,74,75,76,77,78,79,80,81])
 (.cond (.t 82)
 .skip
 (.exit 5)))
 (.block 6
 (.regionE R19_15 [82,83,84] [6])))
def aqx:ACode:=aj5
def R19_16t5:=[oM 5 95]
def R19_16t4:=q 95 (.append 5 48 (.t 85) (.t 94))::R19_16t5
def R19_16t3:=q 94 (.buildSl 5 1 [bmt,bmr,bmu,bmu,bmu] [(0,.t 93)])::R19_16t4
def R19_16p2:=[q 93 (.build [bmt,bmr,bmu,bmu,bmu] [(0,1),(1,1),(2,1),(3,2)] [(0,bmm 1),(1,.t 89),(3,.t 92)])]
def R19_16t2:=R19_16p2++R19_16t3
def R19_16t1:=bmz 92 42 [.t 90,.t 91]::R19_16t2
def R19_16p0:=[oM 85 5,oM 86 0,oM 87 8,oM 88 6,q 89 (.subStr (.t 86) (some (.t 87)) (some (.t 88))),oM 90 0,oM 91 8]
def R19_16:=R19_16p0++R19_16t1
def R19_17t2:=[oM 96 98]
def R19_17t1:=bmz 98 41 [.t 97]::R19_17t2
def R19_17p0:=[oM 97 7]
def R19_17:=R19_17p0++R19_17t1
def R19_18:=[bm2 9 (bml 0)]
def R19_19t5:=[bm6 108 (.t 103) (.t 107) bmo]
def R19_19t4:=qg 107 (.call (.c (.fn 41 [] [])) [.t 106]) 103 true::R19_19t5
def R19_19t3:=qg 106 (.indexStr (.t 104) (.t 105)) 103 true::R19_19t4
def R19_19t2:=gM 105 6 103 true::R19_19t3
def R19_19t1:=gM 104 0 103 true::R19_19t2
def R19_19p0:=[oM 99 6,oM 100 0,q 101 (.lenS .p (.t 100)),q 102 (.bin .lss (.t 99) (.t 101)),oM 103 102]
def R19_19:=R19_19p0++R19_19t1
def R19_20:=[oM 109 6,oM 110 8,q 111 (.bin .sub (.t 109) (.t 110)),q 112 (.bin .lss (.t 111) (bml 9))]
def R19_21:=[oM 113 9,q 114 (.bin .mul (bml 10) (.t 113)),oM 115 0,oM 116 6,q 117 (.indexStr (.t 115) (.t 116)),q 118 (.bin .sub (.t 117) (bmm 48)),q 119 (.conv .i64 (.t 118)),q 120 (.bin .add (.t 114) (.t 119)),oM 9 120]
def R19_22:=[oM 121 6,q 122 (.bin .add (.t 121) (bml 1)),oM 6 122]
def aj4:ACode:=
 (.seq (.seq (.region R19_19 [] [99,100,101,102,103,104,105,106,107])
 (.cond (.t 108)
 .skip
 (.exit 7)))
 (.block 8
 (.seq (.seq (.regionE R19_20 [108,109,110,111] [112])
 (.cond (.t 112)
 (.regionE R19_21 [112,113,114,115,116,117,118,119,120] [9])
 .skip))
 (.regionE R19_22 [112,121,122] [6]))))
def aqw:ACode:=aj4
def R19_23t5:=[gM 132 131 127 true,gM 133 0 132 false,gM 134 6 132 false,qg 135 (.indexStr (.t 133) (.t 134)) 132 false,qg 136 (.bin .eql (.t 135) (bmm 46)) 132 false,qg 137 (.pick (.t 132) bmn (.t 136)) 127 true,bm6 138 (.t 127) (.t 137) bmo,oM 10 138]
def R19_23t4:=qg 131 (.call (.c (.fn 40 [] [])) [.t 130]) 127 true::R19_23t5
def R19_23t3:=qg 130 (.indexStr (.t 128) (.t 129)) 127 true::R19_23t4
def R19_23t2:=gM 129 6 127 true::R19_23t3
def R19_23t1:=gM 128 0 127 true::R19_23t2
def R19_23p0:=[oM 123 6,oM 124 0,q 125 (.lenS .p (.t 124)),q 126 (.bin .lss (.t 123) (.t 125)),oM 127 126]
def R19_23:=R19_23p0++R19_23t1
def R19_24:=[oM 139 6,oM 140 8,q 141 (.bin .sub (.t 139) (.t 140)),q 142 (.bin .gtr (.t 141) (bml 9)),oM 143 142,gM 144 6 143 false,gM 145 8 143 false,qg 146 (.bin .sub (.t 144) (.t 145)) 143 false,qg 147 (.bin .gtr (.t 146) (bml 1)) 143 false,gM 148 147 143 false,gM 149 7 148 true,qg 150 (.bin .eql (.t 149) (bmm 48)) 148 true,qg 151 (.pick (.t 148) (.t 150) bmo) 143 false,bm6 152 (.t 143) bmn (.t 151),oM 153 152,gM 154 10 153 false,bm6 155 (.t 153) bmn (.t 154)]
def R19_25t4:=[bm2 4 (bml 31)]
def R19_25t3:=bmy 2 3 158::R19_25t4
def R19_25p2:=[bm2 2 bmq]
def R19_25t2:=R19_25p2++R19_25t3
def R19_25t1:=bmz 158 42 [.t 156,.t 157]::R19_25t2
def R19_25p0:=[oM 156 0,oM 157 8]
def R19_25:=R19_25p0++R19_25t1
def R19_26t5:=[oM 5 170]
def R19_26t4:=q 170 (.append 5 48 (.t 159) (.t 169))::R19_26t5
def R19_26t3:=q 169 (.buildSl 5 1 [bmt,bmr,bmu,bmu,bmu] [(0,.t 168)])::R19_26t4
def R19_26p2:=[q 168 (.build [bmt,bmr,bmu,bmu,bmu] [(0,1),(1,1),(2,1),(3,2)] [(0,bmm 2),(1,.t 163),(2,.t 164),(3,.t 167)])]
def R19_26t2:=R19_26p2++R19_26t3
def R19_26t1:=bmz 167 42 [.t 165,.t 166]::R19_26t2
def R19_26p0:=[oM 159 5,oM 160 0,oM 161 8,oM 162 6,q 163 (.subStr (.t 160) (some (.t 161)) (some (.t 162))),oM 164 9,oM 165 0,oM 166 8]
def R19_26:=R19_26p0++R19_26t1
def R19_27t2:=[oM 171 173]
def R19_27t1:=bmz 173 43 [.t 172]::R19_27t2
def R19_27p0:=[oM 172 7]
def R19_27:=R19_27p0++R19_27t1
def R19_28:=[oM 174 6,q 175 (.bin .add (.t 174) (bml 1)),oM 6 175]
def R19_29t5:=[oM 5 186]
def R19_29t4:=q 186 (.append 5 48 (.t 176) (.t 185))::R19_29t5
def R19_29t3:=q 185 (.buildSl 5 1 [bmt,bmr,bmu,bmu,bmu] [(0,.t 184)])::R19_29t4
def R19_29p2:=[q 184 (.build [bmt,bmr,bmu,bmu,bmu] [(0,1),(1,1),(2,1),(3,2)] [(0,bmm 3),(1,.t 180),(3,.t 183)])]
def R19_29t2:=R19_29p2++R19_29t3
def R19_29t1:=bmz 183 42 [.t 181,.t 182]::R19_29t2
def R19_29p0:=[oM 176 5,oM 177 0,oM 178 8,oM 179 6,q 180 (.subStr (.t 177) (some (.t 178)) (some (.t 179))),oM 181 0,oM 182 8]
def R19_29:=R19_29p0++R19_29t1
def R19_30t4:=[bm2 4 (bml 30)]
def R19_30t3:=bmy 2 3 25::R19_30t4
def R19_30p2:=[bm2 2 bmq]
def R19_30t2:=R19_30p2++R19_30t3
def R19_30t1:=bmz 25 42 [.t 23,.t 24]::R19_30t2
def R19_30p0:=[oM 23 0,oM 24 8]
def R19_30:=R19_30p0++R19_30t1
def aj3:ACode:=
 (.seq (.seq (.regionE R19_5 [15,16,17] [18])
 (.cond (.t 18)
 .skip
 (.exit 0)))
 (.block 1
 (.seq (.regionE R19_6 [18,19,20,21] [7])
 (.seq (.regionE R19_7 [22] [8])
 (.block 2
 (.seq (.regionE R19_8 [27,28,29,30,31,32,33,34,35,36,37,38,39,40] [26])
 (.cond (.t 26)
 (.regionE R19_9 [7,8,26,41,42] [6])
 (.seq (.regionE R19_10 [26,44,45] [43])
 (.cond (.t 43)
 (.block 3
 (.loop [7,8,43] aqy))
 (.seq (.region R19_13 [] [43,59,60])
 (.cond (.t 58)
 (.seq (.block 5
 (.loop [7,58] aqx))
 (.region R19_16 [] [8,82,85,86,87,88,89,90,91,92,93,94,95]))
 (.seq (.region R19_17 [] [58,97,98])
 (.cond (.t 96)
 (.seq (.regionE R19_18 [96] [9])
 (.seq (.block 7
 (.loop [] aqw))
 (.seq (.region R19_23 [] [108,123,124,125,126,127,128,129,130,131,132,133,134,135,136,137,138])
 (.seq (.seq (.regionE R19_24 [7,10,139,140,141,142,143,144,145,146,147,148,149,150,151,152,153,154] [155])
 (.cond (.t 155)
 (.seq (.region R19_25 [] [0,5,6,8,9,155,156,157,158])
 .ret)
 .skip))
 (.region R19_26 [] [8,9,155,159,160,161,162,163,164,165,166,167,168,169,170])))))
 (.seq (.region R19_27 [] [7,96,172,173])
 (.cond (.t 171)
 (.seq (.regionE R19_28 [171,174,175] [6])
 (.region R19_29 [] [8,176,177,178,179,180,181,182,183,184,185,186]))
 (.seq (.region R19_30 [] [0,5,6,8,23,24,25,171])
 .ret))))))))))))))))
def zb:ACode:=aj3
def R19_31t5:=[oM 5 194]
def R19_31t4:=q 194 (.append 5 48 (.t 187) (.t 193))::R19_31t5
def R19_31t3:=q 193 (.buildSl 5 1 [bmt,bmr,bmu,bmu,bmu] [(0,.t 192)])::R19_31t4
def R19_31p2:=[q 192 (.build [bmt,bmr,bmu,bmu,bmu] [(0,1),(1,1),(2,1),(3,2)] [(0,bmm 4),(3,.t 191)])]
def R19_31t2:=R19_31p2++R19_31t3
def R19_31t1:=bmz 191 42 [.t 188,.t 190]::R19_31t2
def R19_31p0:=[oM 187 5,oM 188 0,oM 189 0,q 190 (.lenS .p (.t 189))]
def R19_31:=R19_31p0++R19_31t1
def R19_32t2:=[bm2 4 (bml 0)]
def R19_32t1:=bmy 2 3 196::R19_32t2
def R19_32p0:=[oM 195 5,q 196 (.build [bmu,bmu] [(0,1),(1,1)] []),oM 2 195]
def R19_32:=R19_32p0++R19_32t1
def aip:ACFun:={ ntmps:=197,results:=[.tmp 2,.cell 3 true 2,.tmp 4],body:=
 (.seq (.region R19_0 [] K19_0)
 (.seq (.seq (.regionE R19_1 [11,12] [13])
 (.cond (.t 13)
 (.seq (.region R19_2 [] [0,13,14])
 .ret)
 .skip))
 (.seq (.regionE R19_3 [13] [5])
 (.seq (.regionE R19_4 [] [6])
 (.seq (.block 0
 (.loop [55] zb))
 (.seq (.region R19_31 [] [0,6,18,187,188,189,190,191,192,193,194])
 (.seq (.region R19_32 [] [5,195,196])
 .ret))))))) }
theorem ahu:ql (List.range' 1 (aip.ntmps-1)) aip.body=true:=by kernel_rfl
abbrev baw:Nat:=40
def K40_0:=List.range' 1 20
theorem avp:aam K40_0 (uq 21 [] 1)=[]:=by kernel_rfl
def R40_0:=[bm2 2 bmo]
def R40_1:=[oM 3 0,q 4 (.bin .geq (.t 3) (bmm 97)),oM 5 4,gM 6 0 5 true,qg 7 (.bin .leq (.t 6) (bmm 122)) 5 true,bm6 8 (.t 5) (.t 7) bmo,oM 9 8,gM 10 0 9 false,qg 11 (.bin .geq (.t 10) (bmm 65)) 9 false,gM 12 11 9 false,gM 13 0 12 true,qg 14 (.bin .leq (.t 13) (bmm 90)) 12 true,qg 15 (.pick (.t 12) (.t 14) bmo) 9 false,bm6 16 (.t 9) bmn (.t 15),oM 17 16,gM 18 0 17 false,qg 19 (.bin .eql (.t 18) (bmm 95)) 17 false,bm6 20 (.t 17) bmn (.t 19),oM 2 20]
def aqp:ACFun:={ ntmps:=21,results:=[.tmp 2],body:=
 (.seq (.regionE R40_0 K40_0 [])
 (.seq (.regionE R40_1 [0,3,4,5,6,7,8,9,10,11,12,13,14,15,16,17,18,19,20] [2])
 .ret)) }
abbrev a4w:Nat:=41
def K41_0:=List.range' 1 8
theorem avo:aam K41_0 (uq 9 [] 1)=[]:=by kernel_rfl
def R41_0:=[bm2 2 bmo]
def R41_1:=[oM 3 0,q 4 (.bin .geq (.t 3) (bmm 48)),oM 5 4,gM 6 0 5 true,qg 7 (.bin .leq (.t 6) (bmm 57)) 5 true,bm6 8 (.t 5) (.t 7) bmo,oM 2 8]
def aqo:ACFun:={ ntmps:=9,results:=[.tmp 2],body:=
 (.seq (.regionE R41_0 K41_0 [])
 (.seq (.regionE R41_1 [0,3,4,5,6,7,8] [2])
 .ret)) }
abbrev bfh:Nat:=42
def K42_0:=[2,3]++List.range' 5 19
def R42_0:=[q 4 (.alloc [bmu,bmu])]
def R42_1:=[bm2 5 (bml 1),bm2 6 (bml 1)]
def R42_2:=[bm2 7 (bml 0)]
def R42_3:=[oM 8 7,oM 9 1,q 10 (.bin .lss (.t 8) (.t 9))]
def R42_4:=[oM 13 6,q 14 (.bin .add (.t 13) (bml 1)),oM 6 14]
def R42_5:=[oM 15 0,oM 16 7,q 17 (.indexStr (.t 15) (.t 16)),q 18 (.bin .eql (.t 17) (bmm 10))]
def R42_6:=[oM 19 5,q 20 (.bin .add (.t 19) (bml 1)),oM 5 20]
def R42_7:=[bm2 6 (bml 1)]
def R42_8:=[oM 11 7,q 12 (.bin .add (.t 11) (bml 1)),oM 7 12]
def aju:ACode:=
 (.seq (.seq (.regionE R42_3 [8,9] [10])
 (.cond (.t 10)
 .skip
 (.exit 0)))
 (.seq (.block 1
 (.seq (.regionE R42_4 [10,13,14] [6])
 (.seq (.regionE R42_5 [15,16,17] [18])
 (.cond (.t 18)
 (.seq (.regionE R42_6 [6,18,19,20] [5])
 (.regionE R42_7 [] [6]))
 .skip))))
 (.regionE R42_8 [11,12,18] [7])))
def aqn:ACode:=aju
def R42_9t1:=[bmy 2 4 23]
def R42_9p0:=[oM 21 5,oM 22 6,q 23 (.build [bmu,bmu] [(0,1),(1,1)] [(0,.t 21),(1,.t 22)])]
def R42_9:=R42_9p0++R42_9t1
def aon:ACFun:={ ntmps:=24,results:=[.cell 4 true 2],body:=
 (.seq (.region R42_0 [] K42_0)
 (.seq (.regionE R42_1 [] [5,6])
 (.seq (.seq (.regionE R42_2 [] [7])
 (.block 0
 (.loop [] aqn)))
 (.seq (.region R42_9 [] [0,1,5,6,7,10,21,22,23])
 .ret)))) }
theorem avn:ql (List.range' 2 (aon.ntmps-2)) aon.body=true:=by kernel_rfl
abbrev bfg:Nat:=43
def K43_0:=List.range' 1 15
theorem avm:aam K43_0 (uq 16 [] 1)=[]:=by kernel_rfl
def R43_0:=[bm2 2 bmo]
def R43_1:=[bm2 3 (bmp #[61,44,58,40,41,123,125,91,93])]
def R43_2:=[bm2 4 (bml 0)]
def R43_3:=[oM 5 4,oM 6 3,q 7 (.lenS .p (.t 6)),q 8 (.bin .lss (.t 5) (.t 7))]
def R43_4:=[oM 11 3,oM 12 4,q 13 (.indexStr (.t 11) (.t 12)),oM 14 0,q 15 (.bin .eql (.t 13) (.t 14))]
def R43_5:=[bm2 2 bmn]
def R43_6:=[oM 9 4,q 10 (.bin .add (.t 9) (bml 1)),oM 4 10]
def ajt:ACode:=
 (.seq (.seq (.regionE R43_3 [5,6,7] [8])
 (.cond (.t 8)
 .skip
 (.exit 0)))
 (.seq (.block 1
 (.seq (.regionE R43_4 [8,11,12,13,14] [15])
 (.cond (.t 15)
 (.seq (.regionE R43_5 [0,3,4,15] [2])
 .ret)
 .skip)))
 (.regionE R43_6 [9,10,15] [4])))
def aql:ACode:=ajt
def R43_7:=[bm2 2 bmo]
def aqm:ACFun:={ ntmps:=16,results:=[.tmp 2],body:=
 (.seq (.regionE R43_0 K43_0 [])
 (.seq (.regionE R43_1 [] [3])
 (.seq (.seq (.regionE R43_2 [] [4])
 (.block 0
 (.loop [] aql)))
 (.seq (.regionE R43_7 [0,3,4,8] [2])
 .ret)))) }
def aby:=ai (hK K19_0p0 0) (ai (hQ K19_0p0 2) (ai (hQ K19_0p0 3) (ai (hQ K19_0p0 4) (ai (hT R19_0p0 K19_0p0 [] 3 [] [] [.cc (.s (.slice none 0 0))]) (ai X19_0 (ai (hP R19_0t1 [] K19_0) (ai (hV R19_0t2 K19_0 [] 5 [] [] [.cc (.s (.int .i64 0))]) (ai (hK K19_0 0) (ai (hQ K19_0 2) (ai (hK K19_0 3) (ai (hQ K19_0 4) (ai (hT R19_1 [11,12] [13] 14 [] [(13,bnq .gtr 1048576 (.op (.lenS .p (.t 0)) [.t 0]))] [.tt 0,sb [0],sb []]) (ai (hU R19_2 [0,13] [14,2] [0,13,14] 15 [] [(14,.op (.build [.s (.int .i64 0),.s (.int .i64 0)] [(0,1),(1,1)] []) []),(2,.c (.s (.slice none 0 0)))] [sb [],.cc (.s (.slice none 0 0))]) (ai (hP R19_2t1 [14] [0,13,14]) (ai (hV R19_2t2 [0,13,14] [4] 5 [] [(4,bm8 2)] [.cc (.s (.int .i64 2))]) (ai (hT R19_3 [13] [5] 6 [] [(5,.c (.s (.slice none 0 0)))] [.cc (.s (.slice none 0 0))]) (ai (hT R19_4 [] [6] 7 [] [(6,bm8 0)] [.cc (.s (.int .i64 0))]) (ai (hT R19_5 [15,16,17] [18] 19 [] [(18,bno .lss (.t 6) (.op (.lenS .p (.t 0)) [.t 0]))] [.tt 6,.tt 0,sb [1],sb []]) (ai (hT R19_6 [18,19,20,21] [7] 22 [] [(7,.op (.indexStr (.t 0) (.t 1)) [.t 0,.t 6])] [.tt 0,.tt 6,sb [],sb []]) (ai (hT R19_7 [22] [8] 23 [] [(8,.t 6)] [.tt 6,.tt 6]) (ai (hT R19_8 [27,28,29,30,31,32,33,34,35,36,37,38,39,40] [26] 41 [] [(26,.pick (.pick (.pick (bni 32 (.t 7)) bna (bni 9 (.t 7))) bna (bni 13 (.t 7))) bna (bni 10 (.t 7)))] [.tt 7,sb [0,0,0],sb [0,0,0],.sub 0 [0,0,2,0] [29],.sub 0 [0,0,2] [29],sb [0,0],sb [0,0],.sub 0 [0,2,0] [33],.sub 0 [0,2] [33],sb [0],sb [0],.sub 0 [2,0] [37],.sub 0 [2] [37],sb [],sb []]) (ai (hT R19_9 [7,8,26,41,42] [6] 43 [] [(6,bnf 1 (.t 6))] [.tt 6,sb [],sb []]) (ai (hT R19_10 [26,44,45] [43] 46 [] [(43,bni 59 (.t 7))] [.tt 7,sb [],sb []]) (ai (hT R19_11 [46,47,48,49,50,51,52,53,54] [55] 56 [] [(55,.pick (bno .lss (.t 6) (.op (.lenS .p (.t 0)) [.t 0])) (bnp .neq 10 (.op (.indexStr (.t 0) (.t 1)) [.t 0,.t 6])) (.c (.s (.bool false))))] [.tt 6,.tt 0,sb [0,1],sb [0],sb [0],.sub 0 [1,0,0] [50],.sub 0 [1,0,1] [50],.sub 0 [1,0] [50],.sub 0 [1] [50],sb []]) (ai (hT R19_12 [55,56,57] [6] 58 [] [(6,bnf 1 (.t 6))] [.tt 6,sb [],sb []]) (ai (hE aqy aj6) (ai (hU R19_13 [43] [59] [43,59,60] 60 [] [(59,.t 7)] [.tt 7]) (ai (hP R19_13t1 [59] [43,59,60]) (ai (hV R19_13t2 [43,59,60] [58] 59 [] [(58,.t 60)] [.tt 60]) (ai (hU R19_14 [61,62,63,64] [65] bo3 66 [] [(65,bno .lss (.t 6) (.op (.lenS .p (.t 0)) [.t 0]))] [.tt 6,.tt 0,sb [1],sb [],sb []]) (ai (hP R19_14t1 [] bo3) (ai (hP R19_14t2 [] bo3) (ai (hP R19_14t3 [66,67] bo3) (ai (hP R19_14t4 [68] bo3) (ai (hP R19_14t5 [69] bo3) (ai (hP R19_14t6 [] bo3) (ai (hP R19_14t7 [] bo3) (ai (hP R19_14t8 [71,72] bo3) (ai (hP R19_14t9 [73] bo3) (ai (hV R19_14t10 [61,62,63,64,65,66,67,68,69,70,71,72,73,74,75,76,77,78,79,80,81] [82] 83 [] [(82,.pick (.t 65) (.pick (.pick (.t 70) (.c (.s (.bool true))) (.t 74)) (.c (.s (.bool true))) (bni 46 (.op (.indexStr (.t 0) (.t 1)) [.t 0,.t 6]))) (.c (.s (.bool false))))] [.sub 0 [1,0] [65],.sub 0 [1,0] [65],.sub 0 [1,2,0,0] [65,76],.sub 0 [1,2,0,1] [65,76],.sub 0 [1,2,0] [65,76],.sub 0 [1,2] [65,76],.sub 0 [1] [65],sb []]) (ai (hT R19_15 [82,83,84] [6] 85 [] [(6,bnf 1 (.t 6))] [.tt 6,sb [],sb []]) (ai (hE aqx aj5) (ai (hU R19_16 [5,8,82,86,87,88] [85,89,90,91] bo4 92 [] [(85,.t 5),(89,.op (.subStr (.t 0) (some (.t 1)) (some (.t 2))) [.t 0,.t 8,.t 6]),(90,.t 0),(91,.t 8)] [.tt 5,.tt 0,.tt 8,.tt 6,.sub 1 [] [],.tt 0,.tt 8]) (ai (hP R19_16t1 [90,91] bo4) (ai (hU R19_16t2 [89,92] [93] bo4 94 [] [(93,.op (.build [.s (.int .u8 0),.s (.string ⟨#[]⟩),.s (.int .i64 0),.s (.int .i64 0),.s (.int .i64 0)] [(0,1),(1,1),(2,1),(3,2)] [(0,.c (.s (.int .u8 1))),(1,.t 1),(3,.t 2)]) [.c (.s (.int .u8 1)),.t 89,.t 92])] [sb []]) (ai (hP R19_16t3 [93] bo4) (ai (hP R19_16t4 [85,94] bo4) (ai (hV R19_16t5 [8,82,85,86,87,88,89,90,91,92,93,94,95] [5] 6 [] [(5,.t 95)] [.tt 95]) (ai (hU R19_17 [58] [97] [58,97,98] 98 [] [(97,.t 7)] [.tt 7]) (ai (hP R19_17t1 [97] [58,97,98]) (ai (hV R19_17t2 [58,97,98] [96] 97 [] [(96,.t 98)] [.tt 98]) (ai (hT R19_18 [96] [9] 10 [] [(9,bm8 0)] [.cc (.s (.int .i64 0))]) (ai (hU R19_19 [99,100,101,102] [103] bo5 104 [] [(103,bno .lss (.t 6) (.op (.lenS .p (.t 0)) [.t 0]))] [.tt 6,.tt 0,sb [1],sb [],sb []]) (ai (hP R19_19t1 [] bo5) (ai (hP R19_19t2 [] bo5) (ai (hP R19_19t3 [104,105] bo5) (ai (hP R19_19t4 [106] bo5) (ai (hV R19_19t5 [99,100,101,102,103,104,105,106,107] [108] 109 [] [(108,.pick (.t 103) (.t 107) bnb)] [sb []]) (ai (hT R19_20 [108,109,110,111] [112] 113 [] [(112,bnq .lss 9 (bno .sub (.t 6) (.t 8)))] [.tt 6,.tt 8,sb [0],sb []]) (ai (hT R19_21 [112,113,114,115,116,117,118,119,120] [9] 121 [] [(9,bno .add (.op (.bin .mul (.c (.s (.int .i64 10))) (.t 1)) [.c (.s (.int .i64 10)),.t 9]) (.op (.conv .i64 (.t 0)) [bnp .sub 48 (.op (.indexStr (.t 0) (.t 1)) [.t 0,.t 6])]))] [.tt 9,sb [0],.tt 0,.tt 6,sb [1,0,0],sb [1,0],sb [1],sb [],sb []]) (ai (hT R19_22 [112,121,122] [6] 123 [] [(6,bnf 1 (.t 6))] [.tt 6,sb [],sb []]) (ai (hE aqw aj4) (ai (hU R19_23 [108,123,124,125,126] [127] bo6 128 [] [(127,bno .lss (.t 6) (.op (.lenS .p (.t 0)) [.t 0]))] [.tt 6,.tt 0,sb [1],sb [],sb []]) (ai (hP R19_23t1 [] bo6) (ai (hP R19_23t2 [] bo6) (ai (hP R19_23t3 [128,129] bo6) (ai (hP R19_23t4 [130] bo6) (ai (hV R19_23t5 [108,123,124,125,126,127,128,129,130,131,132,133,134,135,136,137,138] [10] 139 [] [(10,.pick (.t 127) (.pick (.t 131) (.c (.s (.bool true))) (bni 46 (.op (.indexStr (.t 0) (.t 1)) [.t 0,.t 6]))) (.c (.s (.bool false))))] [.sub 0 [1,0] [127],.sub 0 [1,2,0,0] [127,132],.sub 0 [1,2,0,1] [127,132],.sub 0 [1,2,0] [127,132],.sub 0 [1,2] [127,132],.sub 0 [1] [127],sb [],sb []]) (ai (hT R19_24 [7,10,139,140,141,142,143,144,145,146,147,148,149,150,151,152,153,154] [155] 156 [] [(155,.pick (.pick (bnq .gtr 9 (bno .sub (.t 6) (.t 8))) bna (.pick (bnq .gtr 1 (bno .sub (.t 6) (.t 8))) (bni 48 (.t 7)) bnb)) bna (.t 10))] [.tt 6,.tt 8,sb [0,0,0],sb [0,0],sb [0,0],.sub 0 [0,2,0,0,0] [143],.sub 0 [0,2,0,0,1] [143],.sub 0 [0,2,0,0] [143],.sub 0 [0,2,0] [143],.sub 0 [0,2,0] [143],.sub 0 [0,2,1,0] [143,148],.sub 0 [0,2,1] [143,148],.sub 0 [0,2] [143],sb [0],sb [0],.sub 0 [2] [153],sb []]) (ai (hU R19_25 [0,5,6,8,9,155] [156,157] bo7 158 [] [(156,.t 0),(157,.t 8)] [.tt 0,.tt 8]) (ai (hP R19_25t1 [156,157] bo7) (ai (hU R19_25t2 [] [2] bo7 3 [] [(2,.c (.s (.slice none 0 0)))] [.cc (.s (.slice none 0 0))]) (ai (hP R19_25t3 [158] bo7) (ai (hV R19_25t4 [0,5,6,8,9,155,156,157,158] [4] 5 [] [(4,bm8 31)] [.cc (.s (.int .i64 31))]) (ai (hU R19_26 [5,8,9,155,160,161,162] [159,163,164,165,166] bo8 167 [] [(159,.t 5),(163,.op (.subStr (.t 0) (some (.t 1)) (some (.t 2))) [.t 0,.t 8,.t 6]),(164,.t 9),(165,.t 0),(166,.t 8)] [.tt 5,.tt 0,.tt 8,.tt 6,.sub 1 [] [],.tt 9,.tt 0,.tt 8]) (ai (hP R19_26t1 [165,166] bo8) (ai (hU R19_26t2 [163,164,167] [168] bo8 169 [] [(168,.op (.build [.s (.int .u8 0),.s (.string ⟨#[]⟩),.s (.int .i64 0),.s (.int .i64 0),.s (.int .i64 0)] [(0,1),(1,1),(2,1),(3,2)] [(0,.c (.s (.int .u8 2))),(1,.t 1),(2,.t 2),(3,.t 3)]) [.c (.s (.int .u8 2)),.t 163,.t 164,.t 167])] [sb []]) (ai (hP R19_26t3 [168] bo8) (ai (hP R19_26t4 [159,169] bo8) (ai (hV R19_26t5 [8,9,155,159,160,161,162,163,164,165,166,167,168,169,170] [5] 6 [] [(5,.t 170)] [.tt 170]) (ai (hU R19_27 [7,96] [172] [7,96,172,173] 173 [] [(172,.t 7)] [.tt 7]) (ai (hP R19_27t1 [172] [7,96,172,173]) (ai (hV R19_27t2 [7,96,172,173] [171] 172 [] [(171,.t 173)] [.tt 173]) (ai (hT R19_28 [171,174,175] [6] 176 [] [(6,bnf 1 (.t 6))] [.tt 6,sb [],sb []]) (ai (hU R19_29 [5,8,177,178,179] [176,180,181,182] bo9 183 [] [(176,.t 5),(180,.op (.subStr (.t 0) (some (.t 1)) (some (.t 2))) [.t 0,.t 8,.t 6]),(181,.t 0),(182,.t 8)] [.tt 5,.tt 0,.tt 8,.tt 6,.sub 1 [] [],.tt 0,.tt 8]) (ai (hP R19_29t1 [181,182] bo9) (ai (hU R19_29t2 [180,183] [184] bo9 185 [] [(184,.op (.build [.s (.int .u8 0),.s (.string ⟨#[]⟩),.s (.int .i64 0),.s (.int .i64 0),.s (.int .i64 0)] [(0,1),(1,1),(2,1),(3,2)] [(0,.c (.s (.int .u8 3))),(1,.t 1),(3,.t 2)]) [.c (.s (.int .u8 3)),.t 180,.t 183])] [sb []]) (ai (hP R19_29t3 [184] bo9) (ai (hP R19_29t4 [176,185] bo9) (ai (hV R19_29t5 [8,176,177,178,179,180,181,182,183,184,185,186] [5] 6 [] [(5,.t 186)] [.tt 186]) (ai (hU R19_30 [0,5,6,8,171] [23,24] bpa 25 [] [(23,.t 0),(24,.t 8)] [.tt 0,.tt 8]) (ai (hP R19_30t1 [23,24] bpa) (ai (hU R19_30t2 [] [2] bpa 3 [] [(2,.c (.s (.slice none 0 0)))] [.cc (.s (.slice none 0 0))]) (ai (hP R19_30t3 [25] bpa) (ai (hV R19_30t4 [0,5,6,8,23,24,25,171] [4] 5 [] [(4,bm8 30)] [.cc (.s (.int .i64 30))]) (ai (hE zb aj3) (ai (hU R19_31 [0,5,6,18,189] [187,188,190] bpb 191 [] [(187,.t 5),(188,.t 0),(190,.op (.lenS .p (.t 0)) [.t 0])] [.tt 5,.tt 0,.tt 0,.sub 2 [] []]) (ai (hP R19_31t1 [188,190] bpb) (ai (hU R19_31t2 [191] [192] bpb 193 [] [(192,.op (.build [.s (.int .u8 0),.s (.string ⟨#[]⟩),.s (.int .i64 0),.s (.int .i64 0),.s (.int .i64 0)] [(0,1),(1,1),(2,1),(3,2)] [(0,.c (.s (.int .u8 4))),(3,.t 1)]) [.c (.s (.int .u8 4)),.t 191])] [sb []]) (ai (hP R19_31t3 [192] bpb) (ai (hP R19_31t4 [187,193] bpb) (ai (hV R19_31t5 [0,6,18,187,188,189,190,191,192,193,194] [5] 6 [] [(5,.t 194)] [.tt 194]) (ai (hU R19_32 [5,195] [196,2] [5,195,196] 197 [] [(196,.op (.build [.s (.int .i64 0),.s (.int .i64 0)] [(0,1),(1,1)] []) []),(2,.t 5)] [.tt 5,sb [],.tt 5]) (ai (hP R19_32t1 [196] [5,195,196]) (ai (hV R19_32t2 [5,195,196] [4] 5 [] [(4,bm8 0)] [.cc (.s (.int .i64 0))]) (ai aj4.eq_1 (ai aj6.eq_1 (ai aj3.eq_1 (aj5.eq_1)))))))))))))))))))))))))))))))))))))))))))))))))))))))))))))))))))))))))))))))))))))))))))))))))))))))))))))
def a_f40:=ai (hT R40_0 K40_0 [] 3 [] [] [.cc (.s (.bool false))]) (ai avp (ai (hK K40_0 0) ((hT R40_1 [0,3,4,5,6,7,8,9,10,11,12,13,14,15,16,17,18,19,20] [2] 21 [] [(2,.pick (.pick (.pick (bnp .geq 97 (.t 0)) (bnp .leq 122 (.t 0)) bnb) bna (.pick (bnp .geq 65 (.t 0)) (bnp .leq 90 (.t 0)) bnb)) bna (bni 95 (.t 0)))] [.tt 0,sb [0,0,0],sb [0,0,0],.sub 0 [0,0,1,0] [5],.sub 0 [0,0,1] [5],sb [0,0],sb [0,0],.sub 0 [0,2,0,0] [9],.sub 0 [0,2,0] [9],.sub 0 [0,2,0] [9],.sub 0 [0,2,1,0] [9,12],.sub 0 [0,2,1] [9,12],.sub 0 [0,2] [9],sb [0],sb [0],.sub 0 [2,0] [17],.sub 0 [2] [17],sb [],sb []]))))
def a_f41:=ai (hT R41_0 K41_0 [] 3 [] [] [.cc (.s (.bool false))]) (ai avo (ai (hK K41_0 0) ((hT R41_1 [0,3,4,5,6,7,8] [2] 9 [] [(2,.pick (bnp .geq 48 (.t 0)) (bnp .leq 57 (.t 0)) bnb)] [.tt 0,sb [0],sb [0],.sub 0 [1,0] [5],.sub 0 [1] [5],sb [],sb []]))))
def bcn:=ai (hX R42_0 K42_0) (ai (hK K42_0 0) (ai (hK K42_0 1) (ai (hK K42_0 4) (ai (hT R42_1 [] [5,6] 7 [] [(5,bm8 1),(6,bm8 1)] [.cc (.s (.int .i64 1)),.cc (.s (.int .i64 1))]) (ai (hT R42_2 [] [7] 8 [] [(7,bm8 0)] [.cc (.s (.int .i64 0))]) (ai (hT R42_3 [8,9] [10] 11 [] [(10,bno .lss (.t 7) (.t 1))] [.tt 7,.tt 1,sb []]) (ai (hT R42_4 [10,13,14] [6] 15 [] [(6,bnf 1 (.t 6))] [.tt 6,sb [],sb []]) (ai (hT R42_5 [15,16,17] [18] 19 [] [(18,bni 10 (.op (.indexStr (.t 0) (.t 1)) [.t 0,.t 7]))] [.tt 0,.tt 7,sb [0],sb []]) (ai (hT R42_6 [6,18,19,20] [5] 21 [] [(5,bnf 1 (.t 5))] [.tt 5,sb [],sb []]) (ai (hT R42_7 [] [6] 7 [] [(6,bm8 1)] [.cc (.s (.int .i64 1))]) (ai (hT R42_8 [11,12,18] [7] 13 [] [(7,bnf 1 (.t 7))] [.tt 7,sb [],sb []]) (ai (hE aqn aju) (ai (hU R42_9 [0,1,5,6,7,10,21,22] [23] [0,1,5,6,7,10,21,22,23] 24 [] [(23,.op (.build [.s (.int .i64 0),.s (.int .i64 0)] [(0,1),(1,1)] [(0,.t 0),(1,.t 1)]) [.t 5,.t 6])] [.tt 5,.tt 6,sb []]) (ai (hX R42_9t1 [0,1,5,6,7,10,21,22,23]) (aju.eq_1)))))))))))))))
def a7c:=ai (hT R43_0 K43_0 [] 3 [] [] [.cc (.s (.bool false))]) (ai avm (ai (hK K43_0 0) (ai (hT R43_1 [] [3] 4 [] [(3,.c (.s (.string ⟨#[61,44,58,40,41,123,125,91,93]⟩)))] [.cc (.s (.string ⟨#[61,44,58,40,41,123,125,91,93]⟩))]) (ai (hT R43_2 [] [4] 5 [] [(4,bm8 0)] [.cc (.s (.int .i64 0))]) (ai (hT R43_3 [5,6,7] [8] 9 [] [(8,bno .lss (.t 4) (.op (.lenS .p (.t 0)) [.t 3]))] [.tt 4,.tt 3,sb [1],sb []]) (ai (hT R43_4 [8,11,12,13,14] [15] 16 [] [(15,bno .eql (.op (.indexStr (.t 0) (.t 1)) [.t 3,.t 4]) (.t 0))] [.tt 3,.tt 4,sb [0],.tt 0,sb []]) (ai (hT R43_5 [0,3,4,15] [2] 3 [] [(2,bna)] [.cc (.s (.bool true))]) (ai (hT R43_6 [9,10,15] [4] 11 [] [(4,bnf 1 (.t 4))] [.tt 4,sb [],sb []]) (ai (hE aql ajt) (ai (hT R43_7 [0,3,4,8] [2] 3 [] [(2,bnb)] [.cc (.s (.bool false))]) (ajt.eq_1)))))))))))
theorem bkz:yf Tryd.prog PX0 19=some (false,aip.ntmps,aip.results,aip.body.bare):=by kernel_rfl
theorem bky:yf Tryd.prog PX0 40=some (false,aqp.ntmps,aqp.results,aqp.body.bare):=by kernel_rfl
theorem bkx:yf Tryd.prog PX0 41=some (false,aqo.ntmps,aqo.results,aqo.body.bare):=by kernel_rfl
theorem bkw:yf Tryd.prog PX0 42=some (false,aon.ntmps,aon.results,aon.body.bare):=by kernel_rfl
theorem bkv:yf Tryd.prog PX0 43=some (false,aqm.ntmps,aqm.results,aqm.body.bare):=by kernel_rfl
section
variable {CT:Nat->Option CFun}
def abe(hT:CT baw=some (.code aqp))(c base H):gq CT (.fn baw [] []) [.s (.int .u8 c.toNat)] base H=some (bl (Tok.letter c),H):=by
 refine qi (c:=aqp) hT (by simp[aqp]) ?_
 rw[<- ayl];simp only[aqp,simprocAttr,a_f40,aa]
def ab4(hT:CT a4w=some (.code aqo))(c base H):gq CT (.fn a4w [] []) [.s (.int .u8 c.toNat)] base H=some (bl (Tok.digit c),H):=by
 refine qi (c:=aqo) hT (by simp[aqo]) ?_
 rw[<- a6m];simp only[aqo,simprocAttr,a_f41,aa]
def signs:ByteArray:=⟨#[61,44,58,40,41,123,125,91,93]⟩
theorem a13(call:o8)(base c H):∀(l:List UInt8) (j:Nat),signs.data.toList.drop j=l->j<=9->
 itW (evC call itW base aql) [] H.length (ja 16 [(0,.s (.int .u8 c.toNat)),(3,.s (.string signs)),(4,I j)]) H=
 bif l.contains c then some (.ret,ja 16 [(2,bl true)],H)else some (.ext 0,ja 16 [(0,.s (.int .u8 c.toNat)),(3,.s (.string signs)),(4,I ((9:Nat):Int)),(8,bl false)],H):=by
 intro l
 induction l with
 |nil=>
   intro j hd hj
   have h9:j=9:=by
    have:=jv List.length hd;rw[ig,show signs.data.toList.length=9 from rfl]at this;simp at this;omega
   subst h9;rw[kg];simp only[a7c,simprocAttr,aa,I,show signs.size=9 from rfl,qm]
 |cons x l ih=>
   intro j hd hj
   have hx:signs.data.toList[j]?=some x:=by have:=jv (·[0]?) hd;simp only[jc]at this;exact this
   have hlt:j<9:=(bmk.1 hx).1
   have hd':signs.data.toList.drop (j+1)=l:=by
    have:=jv (List.drop 1) hd
    simpa[qc]using this
   have w:=uf (n:=j) (by omega)
   have hlt':((j:Int)<((signs.size:Nat):Int)):=by rw[show signs.size=9 from rfl];omega
   have hen:=ih (j+1) hd' (by omega)
   have e:((x.toNat:Int)==(c.toNat:Int))=(c==x):=by rw[ib,dz,dz,p9];exact eq_comm
   rw[kg,abw];cases hcx:c==x with
   |true=>
     simp only[a7c,simprocAttr,aa,I,hlt',hx,e,hcx]
   |false=>
     simp only[a7c,simprocAttr,aa,I,hlt',hx,e,hcx,w];simp only[I]at hen;rw[hen];rfl
def a1w(call:o8)(base b)(hb:b.size<=2^40)(d q)(hq:q<=b.size)(H):∀(n p:Nat) (ln cl:Nat),p+n=q->ln<=p+1->cl<=p+1->
 itW (evC call itW base aqn) [] H.length (ja 24 [(0,.s (.string b)),(1,I q),(4,.ref d 0 0),(5,I ln),(6,I cl),(7,I p)]) H=
 some (.ext 0,ja 24 [(0,.s (.string b)),(1,I q),(4,.ref d 0 0),(5,I (Tok.spotL ((b.data.toList.drop p).take n) (ln,cl)).1),(6,I (Tok.spotL ((b.data.toList.drop p).take n) (ln,cl)).2),(7,I q),(10,bl false)],H):=by
 intro n
 induction n with
 |zero=>
   intro p ln cl hp hl hc;rw[o7]at hp;subst hp;rw[kg];simp only[bcn,simprocAttr,aa,I,qm,Tok.spotL]
 |succ n ih=>
   intro p ln cl hp hl hc
   have hlt:p<b.data.toList.length:=by show p<b.size;omega
   have hx:b.data.toList[p]?=some b.data.toList[p]:=af hlt;have hd:b.data.toList.drop p=b.data.toList[p]::b.data.toList.drop (p+1):=ed hlt
   have hj:((p:Int)<(q:Int)):=by omega
   have w1:=uf (n:=cl) (by omega)
   have w2:=uf (n:=ln) (by omega)
   have w3:=uf (n:=p) (by omega)
   rw[hd,az,Tok.spotL];rw[kg];by_cases h10:b.data.toList[p]=10
   .rw[dw h10]
    have ih':=ih (p+1) (ln+1) 1 (by omega) (by omega) (by omega)
    simp only[bcn,simprocAttr,aa,I,hj,hx,w1,w2,w3,amk,h10];simp only[I]at ih';exact ih'
   .rw[fu h10]
    have ih':=ih (p+1) ln (cl+1) (by omega) (by omega) (by omega)
    simp only[bcn,simprocAttr,aa,I,hj,hx,w1,w2,w3,amk,h10];simp only[I]at ih';exact ih'
def adf(hT:CT bfg=some (.code aqm))(c base H):gq CT (.fn bfg [] []) [.s (.int .u8 c.toNat)] base H=some (bl (Tok.sign c),H):=by
 refine qi (c:=aqm) hT (by simp[aqm]) ?_
 have hl:=a13 (gq CT) base c H signs.data.toList 0 rfl (by omega)
 rw[I,I,show((0:Nat):Int)=0 from rfl]at hl
 have e:signs.data.toList.contains c=Tok.sign c:=by
  show[61,44,58,40,41,123,125,91,93].contains c=_;unfold Tok.sign;simp only[abw,aey,zi,bl6]
 rw[e]at hl;unfold signs at hl;simp only[aqm,simprocAttr,a7c,aa,hl];cases Tok.sign c<;>simp only[aa]
def adx(hT:CT bfh=some (.code aon))(base:Nat)(H:Heap)(hbase:base<=H.length){b}(hb:b.size<=2^40){q:Nat}(hq:q<=b.size):
 gq CT (.fn bfh [] []) [.s (.string b),.s (.int .i64 q)] base H=some (.agg [.s (.int .i64 (Tok.spotL (b.data.toList.take q) (1,1)).1),.s (.int .i64 (Tok.spotL (b.data.toList.take q) (1,1)).2)],H++[.cells 0 [.s (.int .i64 (Tok.spotL (b.data.toList.take q) (1,1)).1),.s (.int .i64 (Tok.spotL (b.data.toList.take q) (1,1)).2)]]):=by
 refine p8 (c:=aon) (k:=2) hT rfl (by decide) avn ?_
 have hl:=a1w (gq CT) base b hb H.length q hq (H++[.cells 0 [.s (.int .i64 0),.s (.int .i64 0)]]) q 0 1 1 (by omega) (by omega) (by omega)
 rw[I,I,I,I,show((0:Nat):Int)=0 from rfl,show((1:Nat):Int)=1 from rfl,dx]at hl;simp only[gm,bi]at hl;simp only[aon,simprocAttr,bcn,aa,hl,hbase,afa]
end
def a7l:Nat->Nat->List UInt8->Nat
 |_,n,[]=>n
 |j,n,c::l=>if Tok.digit c then a7l (j+1) (if j<9 then 10*n+(c.toNat-48)else n) l else n
theorem ayh:∀(l:List UInt8) (j n:Nat),j+Tok.far Tok.digit l<=9->a7l j n l=(l.take (Tok.far Tok.digit l)).foldl (fun n c=>n*10+(c.toNat-48)) n
 | [],j,n,_=>rfl
 |c::l,j,n,h=>by
   unfold a7l;unfold Tok.far at h |-;cases hc:Tok.digit c with
   |true=>
     simp only[hc,jf]at h |-
     rw[dw (by omega),ayh l (j+1) _ (by omega),az,ahf,Nat.mul_comm 10]
   |false=>rfl
section
variable {CT:Nat->Option CFun}
def aq5(base){b}(hb:b.size<=2^40){d v H}:∀(l:List UInt8) (p:Nat),b.data.toList.drop p=l->p<=b.size->
 itW (evC (gq CT) itW base aqy) [7,8,43] H.length (ja 197 [(0,.s (.string b)),(3,.ref d 0 0),(5,v),(6,I p)]) H=some (.ext 3,ja 197 [(0,.s (.string b)),(3,.ref d 0 0),(5,v),(6,I ((p+Tok.far Tok.other l:Nat):Int)),(55,bl false)],H):=by
 intro l
 induction l with
 |nil=>
   intro p hd hp
   have hin:p=b.size:=by
    have:=jv List.length hd;rw[ig,show b.data.toList.length=b.size from rfl]at this;simp at this;omega
   subst hin;rw[kg];simp only[aby,simprocAttr,aa,I,qm,Tok.far]
 |cons c l ih=>
   intro p hd hp
   have hx:b.data.toList[p]?=some c:=by have:=jv (·[0]?) hd;simp only[jc]at this;exact this
   have hlt:p<b.size:=(bmk.1 hx).1
   have hd':b.data.toList.drop (p+1)=l:=by
    have:=jv (List.drop 1) hd
    simpa[qc]using this
   have hlt':((p:Int)<(b.size:Int)):=by omega
   have w:=uf (n:=p) (by omega)
   have hen:=ih (p+1) hd' (by omega)
   rw[kg];cases ho:Tok.other c with
   |true=>
     simp only[aby,simprocAttr,aa,I,hlt',hx,w,awl,ho,Tok.far]
     rw[show p+(Tok.far Tok.other l+1)=p+1+Tok.far Tok.other l by omega]
     exact hen
   |false=>
     simp only[aby,simprocAttr,aa,I,hlt',hx,awl,ho,Tok.far]
def azx(hL:∀(c:UInt8) (base:Nat) (H:Heap),gq CT (.fn baw [] []) [.s (.int .u8 c.toNat)] base H=some (bl (Tok.letter c),H))(hD:∀(c:UInt8) (base:Nat) (H:Heap),gq CT (.fn a4w [] []) [.s (.int .u8 c.toNat)] base H=some (bl (Tok.digit c),H))(base){b}(hb:b.size<=2^40){d v w8 H}:∀(l:List UInt8) (p:Nat),b.data.toList.drop p=l->p<=b.size->
 itW (evC (gq CT) itW base aqx) [7,58] H.length (ja 197 [(0,.s (.string b)),(3,.ref d 0 0),(5,v),(6,I p),(8,w8)]) H=some (.ext 5,ja 197 [(0,.s (.string b)),(3,.ref d 0 0),(5,v),(6,I ((p+Tok.far Tok.within l:Nat):Int)),(8,w8),(82,bl false)],H):=by
 intro l
 induction l with
 |nil=>
   intro p hd hp
   have hin:p=b.size:=by
    have:=jv List.length hd;rw[ig,show b.data.toList.length=b.size from rfl]at this;simp at this;omega
   subst hin;rw[kg];simp only[aby,simprocAttr,aa,I,qm,Tok.far]
 |cons c l ih=>
   intro p hd hp
   have hx:b.data.toList[p]?=some c:=by have:=jv (·[0]?) hd;simp only[jc]at this;exact this
   have hlt:p<b.size:=(bmk.1 hx).1
   have hd':b.data.toList.drop (p+1)=l:=by
    have:=jv (List.drop 1) hd
    simpa[qc]using this
   have hlt':((p:Int)<(b.size:Int)):=by omega
   have w:=uf (n:=p) (by omega)
   have hen:=ih (p+1) hd' (by omega)
   rw[kg];cases ho:Tok.within c with
   |true=>
     cases hl:Tok.letter c with
     |true=>
       simp only[aby,simprocAttr,aa,I,hlt',hx,w,hL,hl,a00,ho,Tok.far]
       rw[show p+(Tok.far Tok.within l+1)=p+1+Tok.far Tok.within l by omega]
       exact hen
     |false=>
       have ho2:(Tok.digit c||c==46)=true:=by unfold Tok.within at ho;rw[hl]at ho;simpa using ho
       simp only[aby,simprocAttr,aa,I,hlt',hx,w,hL,hD,hl,a00,ho,ho2,Tok.far]
       rw[show p+(Tok.far Tok.within l+1)=p+1+Tok.far Tok.within l by omega]
       exact hen
   |false=>
     have hl:Tok.letter c=false:=by unfold Tok.within at ho;simp only[oz]at ho;exact ho.1.1
     have hd:Tok.digit c=false:=by unfold Tok.within at ho;simp only[oz]at ho;exact ho.1.2
     have h46:(c==46)=false:=by unfold Tok.within at ho;simp only[oz]at ho;exact ho.2
     simp only[aby,simprocAttr,aa,I,hlt',hx,hL,hD,hl,hd,h46,a00,ho,Tok.far]
def ank(hD:∀(c:UInt8) (base:Nat) (H:Heap),gq CT (.fn a4w [] []) [.s (.int .u8 c.toNat)] base H=some (bl (Tok.digit c),H))(base){b}(hb:b.size<=2^40){d v w7 from' H}:∀(l:List UInt8) (j n:Nat),b.data.toList.drop (from'+j)=l->from'+j<=b.size->n<10^(min j 9)->
 itW (evC (gq CT) itW base aqw) [] H.length (ja 197 [(0,.s (.string b)),(3,.ref d 0 0),(5,v),(6,I ((from'+j:Nat):Int)),(7,w7),(8,I from'),(9,I n)]) H=some (.ext 7,ja 197 [(0,.s (.string b)),(3,.ref d 0 0),(5,v),(6,I ((from'+(j+Tok.far Tok.digit l):Nat):Int)),(7,w7),(8,I from'),(9,I (a7l j n l)),(108,bl false)],H):=by
 intro l
 induction l with
 |nil=>
   intro j n hd hp hn
   have hin:from'+j=b.size:=by
    have:=jv List.length hd;rw[ig,show b.data.toList.length=b.size from rfl]at this;simp at this;omega
   rw[kg];simp only[aby,simprocAttr,aa,I,hin,qm,Tok.far,a7l]
 |cons c l ih=>
   intro j n hd hp hn
   have hx:b.data.toList[from'+j]?=some c:=by have:=jv (·[0]?) hd;simp only[jc]at this;exact this
   have hlt:from'+j<b.size:=(bmk.1 hx).1
   have hd':b.data.toList.drop (from'+(j+1))=l:=by
    have:=jv (List.drop 1) hd
    simpa[qc,yh]using this
   have hlt':(((from'+j:Nat):Int)<(b.size:Int)):=by omega
   have w:=uf (n:=from'+j) (by omega)
   have w2:IntKind.i64.wrap (((from'+j:Nat):Int)-(from':Int))=(j:Int):=by rw[IntKind.wrap_i64];omega
   have q:decide ((j:Int)<9)=decide (j<9):=by rw[ib,jg,jg];omega
   rw[kg];cases ho:Tok.digit c with
   |true=>
     have h48:48<=c.toNat/\c.toNat<=57:=by unfold Tok.digit at ho;simpa using ho
     have w3:IntKind.u8.wrap ((c.toNat:Int)-48)=((c.toNat-48:Nat):Int):=by unfold IntKind.wrap;simp[IntKind.bits,IntKind.signed];omega
     by_cases hj:j<9
     .have hp9:n<10^j:=by rwa[ahe (by omega)]at hn
      have hle:10^(j+1)<=10^9:=Nat.pow_le_pow_right (by decide) (by omega)
      have hn2:10*n+(c.toNat-48)<10^(j+1):=by rw[Nat.pow_succ];omega
      have hen:=ih (j+1) (10*n+(c.toNat-48)) hd' (by omega) (by rw[ahe (by omega)];exact hn2)
      have w4:IntKind.i64.wrap (10*(n:Int))=((10*n:Nat):Int):=by rw[IntKind.wrap_i64];omega
      have w6:IntKind.i64.wrap ((c.toNat-48:Nat):Int)=((c.toNat-48:Nat):Int):=by rw[IntKind.wrap_i64];omega
      have w5:IntKind.i64.wrap (((10*n:Nat):Int)+((c.toNat-48:Nat):Int))=((10*n+(c.toNat-48):Nat):Int):=by rw[IntKind.wrap_i64];omega
      simp only[aby,simprocAttr,aa,I,hlt',hx,w,w2,w3,w4,w6,w5,q,hj,hD,ho,Tok.far,a7l]
      rw[show j+(Tok.far Tok.digit l+1)=j+1+Tok.far Tok.digit l by omega]
      exact hen
     .have hen:=ih (j+1) n hd' (by omega) (by rw[aoi (by omega)]at hn |-;exact hn)
      simp only[aby,simprocAttr,aa,I,hlt',hx,w,w2,w3,q,hj,hD,ho,Tok.far,a7l]
      rw[show j+(Tok.far Tok.digit l+1)=j+1+Tok.far Tok.digit l by omega]
      exact hen
   |false=>
     simp only[aby,simprocAttr,aa,I,hlt',hx,hD,ho,Tok.far,a7l]
end
structure TR (CT:Nat->Option CFun):Prop where
 letter:CT baw=some (.code aqp)
 digit:CT a4w=some (.code aqo)
 sign:CT bfg=some (.code aqm)
 spot:CT bfh=some (.code aon)
structure RefSt (m:Nat) (H:Heap) (d:Nat) (v:V) (R:List (List V)):Prop where
 res:∃x y,getC H d 0=some [x,y]
 out:uj m 5 H v R
 len:m<=H.length
 lt:d<m
def afj(b:ByteArray)(d:Nat)(v:V)(p:Nat):Env:=[(0,.s (.string b)),(3,.ref d 0 0),(5,v),(6,I p)]
def uj.tr{m w H v R}(h:uj m w H v R){fr}(hv:v∈fr):uj m w (Go.AM.trim m fr H) v R:=by
 rcases uj.trim_or h (aj _) hv with⟨rfl,rfl⟩|e
 .exact uj.start _ _ _
 .rw[e];exact h
def RefSt.tr{m H d v R}(h:RefSt m H d v R){fr}(hv:v∈fr):RefSt m (Go.AM.trim m fr H) d v R:=by
 obtain⟨x,y,hd⟩:=h.res;exact⟨⟨x,y,aii hd h.lt⟩,uj.tr h.out hv,aqc h.len,h.lt⟩
def RefSt.app{m base H d v R}(h:RefSt m H d v R)(hbm:base<=m)(ob){row}(hrl:row.length=5)(hr1:row.all V.one=true)(hR:R.length<=2^40):
 ∃v' C,qp (H++[ob]++[Ob.cells 0 row]) base 5 48 v (.sl (H.length+1) 0 0 1 5)=some (v',C)/\RefSt m C d v' (R++[row])/\dn m [] H C:=by
 have hmL:=h.len;obtain⟨A,hA⟩:∃A,H++[ob]=A:=⟨_,rfl⟩
 have lA:A.length=H.length+1:=by rw[<- hA];simp
 have kA:∀id,id<H.length->A[id]?=H[id]?:=fun id h1=>by rw[<- hA,ah h1]
 rw[hA,<- lA];obtain⟨B,hB⟩:∃B,A++[Ob.cells 0 row]=B:=⟨_,rfl⟩
 have kB:∀id,id<H.length->B[id]?=H[id]?:=fun id h1=>by rw[<- hB,ah (by omega),kA id h1]
 have lB:B.length=H.length+2:=by rw[<- hB];simp[lA]
 have hx:elems B 5 (.sl A.length 0 0 1 5)=some ([row].length,[row].flatten):=by
  rw[<- hB];exact(RdW.sl (R:=[row]) (by simpa using jl A 0 row) (by intro r hr;simp at hr;subst hr;exact hrl)).el
 have hvB:uj m 5 B v R:=h.out.keep fun id g n e=>kB id (h.out.lt id g n e)
 obtain⟨v',C,eC,aC,lC,kC⟩:=hvB.append (base:=base) (bytes:=48) (S:=[row]) hbm (by omega) (by intro r hr;simp at hr;subst hr;exact hrl) (by simp) hx (by simpa using hr1) (by simp;omega)
 rw[hB]
 have kk:∀x,x<m->C[x]?=H[x]?:=fun x hx=>by
  rw[kC x (by omega) (fun g n e=>?_),kB x (by omega)]
  obtain⟨_,⟨_,rfl⟩|⟨id',g',rfl,_,hid'⟩⟩:=h.out
  .cases e
  .cases e;omega
 refine⟨v',C,eC,⟨?_,aC,by omega,h.lt⟩,by omega,fun x hx _=>kk x hx⟩
 obtain⟨x,y,hd⟩:=h.res
 exact⟨x,y,by unfold getC at hd |-;rw[kk d h.lt];exact hd⟩
def apn{l:List UInt8}{p:Nat}{c x:UInt8}(hdr:l.drop p=c::l.drop (p+1))(hx:l[p+(Tok.far Tok.digit (l.drop (p+1))+1)]?=some x):(Tok.letter x||x==46)=decide (Tok.far Tok.digit (l.drop (p+1))<Tok.far Tok.within (l.drop (p+1))):=by
 have hx2:(l.drop (p+1)).drop (Tok.far Tok.digit (l.drop (p+1)))=x::(l.drop (p+1)).drop (Tok.far Tok.digit (l.drop (p+1))+1):=by
  have h3:(l.drop (p+1))[Tok.far Tok.digit (l.drop (p+1))]?=some x:=by rw[jc,show p+1+Tok.far Tok.digit (l.drop (p+1))=p+(Tok.far Tok.digit (l.drop (p+1))+1) by omega];exact hx
  obtain⟨h4,h5⟩:=bmk.1 h3;rw[ed h4,h5]
 have hnd:=Tok.far_stop Tok.digit _ hx2
 have hall:∀y∈(l.drop (p+1)).take (Tok.far Tok.digit (l.drop (p+1))),Tok.within y=true:=fun y hy=>by
  unfold Tok.within;rw[Tok.far_take _ _ y hy];cases Tok.letter y<;>rfl
 have e:=Tok.far_all Tok.within _ (x::(l.drop (p+1)).drop (Tok.far Tok.digit (l.drop (p+1))+1)) hall;rw[<- hx2,tq,Tok.far_len,hx2]at e;rw[e,ib,jg];unfold Tok.far
 have hw:Tok.within x=(Tok.letter x||x==46):=by
  unfold Tok.within;rw[hnd,zi]
 rw[hw]
 cases(Tok.letter x||x==46)<;>simp
section
variable {CT:Nat->Option CFun}
def a2s(T:TR CT){base m:Nat}{b}(hb:b.size<=2^40){d:Nat}(hbd:base<=d)(hbm:base<=m){H v}{ln cl p:Nat}{R}(st:RefSt m H d v R)(hR:R.length<=p){c:UInt8}(hx:b.data.toList[p]?=some c)(hsp:Tok.spotL (b.data.toList.take p) (1,1)=(ln,cl))(hbl:Tok.blank c=true):
 ∃H',itW (evC (gq CT) itW base zb) [55] m (ja 197 (afj b d v p)) H=itW (evC (gq CT) itW base zb) [55] m (ja 197 (afj b d v (p+1))) H'/\RefSt m H' d v R/\dn m [] H H':=by
 have hlt:p<b.size:=(bmk.1 hx).1
 have hlt':((p:Int)<(b.size:Int)):=by omega
 have hdr:b.data.toList.drop p=c::b.data.toList.drop (p+1):=by
  rw[ed hlt,(bmk.1 hx).2]
 have hL:=abe T.letter;have hD:=ab4 T.digit;have hS:=adf T.sign c;have hmL:=st.len
 have hspot:=fun(H:Heap) (hH:base<=H.length)=>adx T.spot base H hH hb (q:=p) (by omega)
 simp only[hsp]at hspot
 have w:=uf (n:=p) (by omega)
 have ten:=amk c
 have b32:((c.toNat:Int)==32)=(c==32):=by rw[ib,dz,dz,p9];rfl
 have b9:((c.toNat:Int)==9)=(c==9):=by rw[ib,dz,dz,p9];rfl
 have b13:((c.toNat:Int)==13)=(c==13):=by rw[ib,dz,dz,p9];rfl
 have b10:((c.toNat:Int)==10)=(c==10):=by rw[ib,dz,dz,p9];rfl
 refine⟨_,?_,st.tr (fr:=ja 197 (afj b d v (p+1))) (aa8 (s:=5) (by decide) rfl),dn.tr (A:=H) ⟨hmL,fun _ _ _=>rfl⟩ _⟩
 have nb:=hbl;unfold Tok.blank at nb;rw[kg];cases n32:c==32 with
 |true=>simp only[afj,simprocAttr,I,aby,aa,hlt',hx,w,b32,n32]
 |false=>
   cases n9:c==9 with
   |true=>simp only[afj,simprocAttr,I,aby,aa,hlt',hx,w,b32,n32,b9,n9]
   |false=>
     cases n13:c==13 with
     |true=>simp only[afj,simprocAttr,I,aby,aa,hlt',hx,w,b32,n32,b9,n9,b13,n13]
     |false=>
       have n10:(c==10)=true:=by simpa only[n32,n9,n13,qo]using nb
       simp only[afj,simprocAttr,I,aby,aa,hlt',hx,w,b32,n32,b9,n9,b13,n13,b10,n10]
def awh(T:TR CT){base m:Nat}{b}(hb:b.size<=2^40){d:Nat}(hbd:base<=d)(hbm:base<=m){H v}{ln cl p:Nat}{R}(st:RefSt m H d v R)(hR:R.length<=p){c:UInt8}(hx:b.data.toList[p]?=some c)(hsp:Tok.spotL (b.data.toList.take p) (1,1)=(ln,cl))(hbl:Tok.blank c=false)(h59:c=59):
 ∃H',itW (evC (gq CT) itW base zb) [55] m (ja 197 (afj b d v p)) H=itW (evC (gq CT) itW base zb) [55] m (ja 197 (afj b d v (p+(Tok.far Tok.other (b.data.toList.drop (p+1))+1)))) H'/\RefSt m H' d v R/\dn m [] H H':=by
 have hlt:p<b.size:=(bmk.1 hx).1
 have hlt':((p:Int)<(b.size:Int)):=by omega
 have hdr:b.data.toList.drop p=c::b.data.toList.drop (p+1):=by
  rw[ed hlt,(bmk.1 hx).2]
 have hL:=abe T.letter;have hD:=ab4 T.digit;have hS:=adf T.sign c;have hmL:=st.len
 have hspot:=fun(H:Heap) (hH:base<=H.length)=>adx T.spot base H hH hb (q:=p) (by omega)
 simp only[hsp]at hspot
 have w:=uf (n:=p) (by omega)
 have ten:=amk c
 have b32:((c.toNat:Int)==32)=(c==32):=by rw[ib,dz,dz,p9];rfl
 have b9:((c.toNat:Int)==9)=(c==9):=by rw[ib,dz,dz,p9];rfl
 have b13:((c.toNat:Int)==13)=(c==13):=by rw[ib,dz,dz,p9];rfl
 have b10:((c.toNat:Int)==10)=(c==10):=by rw[ib,dz,dz,p9];rfl
 have hl:=aq5 (CT:=CT) base hb (d:=d) (v:=v) (H:=H) (b.data.toList.drop p) p rfl (by omega)
 rw[hdr,Tok.far,dw (by rw[h59];decide)]at hl
 refine⟨_,?_,st.tr (fr:=ja 197 (afj b d v (p+(Tok.far Tok.other (b.data.toList.drop (p+1))+1)))) (aa8 (s:=5) (by decide) rfl),dn.tr (A:=H) ⟨hmL,fun _ _ _=>rfl⟩ _⟩
 have h59':((c.toNat:Int)==59)=true:=by rw[h59];rfl
 have nb:=hbl;unfold Tok.blank at nb;simp only[oz]at nb;obtain⟨⟨⟨n32,n9⟩,n13⟩,n10⟩:=nb;rw[kg];simp only[I]at hl;simp only[afj,simprocAttr,I,aby,aa,hlt',hx,w,b32,n32,b9,n9,b13,n13,b10,n10,h59',hl]
def a8z(T:TR CT){base m:Nat}{b}(hb:b.size<=2^40){d:Nat}(hbd:base<=d)(hbm:base<=m){H v}{ln cl p:Nat}{R}(st:RefSt m H d v R)(hR:R.length<=p){c:UInt8}(hx:b.data.toList[p]?=some c)(hsp:Tok.spotL (b.data.toList.take p) (1,1)=(ln,cl))(hbl:Tok.blank c=false)(h59:c≠59)(hlt1:Tok.letter c=true):
 ∃v' H',itW (evC (gq CT) itW base zb) [55] m (ja 197 (afj b d v p)) H=itW (evC (gq CT) itW base zb) [55] m (ja 197 (afj b d v' (p+(Tok.far Tok.within (b.data.toList.drop (p+1))+1)))) H'/\RefSt m H' d v' (R++[tV ⟨1,c::(b.data.toList.drop (p+1)).take (Tok.far Tok.within (b.data.toList.drop (p+1))),0,ln,cl⟩])/\dn m [] H H':=by
 have hlt:p<b.size:=(bmk.1 hx).1
 have hlt':((p:Int)<(b.size:Int)):=by omega
 have hdr:b.data.toList.drop p=c::b.data.toList.drop (p+1):=by
  rw[ed hlt,(bmk.1 hx).2]
 have hL:=abe T.letter;have hD:=ab4 T.digit;have hS:=adf T.sign c;have hmL:=st.len
 have hspot:=fun(H:Heap) (hH:base<=H.length)=>adx T.spot base H hH hb (q:=p) (by omega)
 simp only[hsp]at hspot
 have w:=uf (n:=p) (by omega)
 have ten:=amk c
 have b32:((c.toNat:Int)==32)=(c==32):=by rw[ib,dz,dz,p9];rfl
 have b9:((c.toNat:Int)==9)=(c==9):=by rw[ib,dz,dz,p9];rfl
 have b13:((c.toNat:Int)==13)=(c==13):=by rw[ib,dz,dz,p9];rfl
 have b10:((c.toNat:Int)==10)=(c==10):=by rw[ib,dz,dz,p9];rfl
 have h59':((c.toNat:Int)==59)=false:=by rw[cz];intro e;exact h59 ((p9 c 59).2 e)
 have nb:=hbl;unfold Tok.blank at nb;simp only[oz]at nb;obtain⟨⟨⟨n32,n9⟩,n13⟩,n10⟩:=nb
 have hw:Tok.within c=true:=by unfold Tok.within;rw[hlt1];rfl
 have hfl:=Tok.far_le Tok.within (b.data.toList.drop (p+1));rw[ig,show b.data.toList.length=b.size from rfl]at hfl
 have hl:=fun w8=>azx hL hD base hb (d:=d) (v:=v) (w8:=w8) (H:=H) (b.data.toList.drop p) p rfl (by omega)
 simp only[hdr,Tok.far,dw hw,I]at hl
 have hle:(0<=(p:Int)/\(p:Int)<=((p+(Tok.far Tok.within (b.data.toList.drop (p+1))+1):Nat):Int)/\((p+(Tok.far Tok.within (b.data.toList.drop (p+1))+1):Nat):Int)<=(b.size:Int)):=by omega
 have hex:=extract_eq b p (Tok.far Tok.within (b.data.toList.drop (p+1))+1);rw[hdr,az]at hex
 obtain⟨v',C,eC,sC,kC⟩:=st.app hbm (Ob.cells 0 [V.s (.int .i64 ln),V.s (.int .i64 cl)]) (row:=tV ⟨1,c::(b.data.toList.drop (p+1)).take (Tok.far Tok.within (b.data.toList.drop (p+1))),0,ln,cl⟩) rfl rfl (by omega)
 have eC':qp (H++[Ob.cells 0 [V.s (.int .i64 ln),V.s (.int .i64 cl)]]++[Ob.cells 0 [V.s (.int .u8 1),V.s (.string ⟨(c::(b.data.toList.drop (p+1)).take (Tok.far Tok.within (b.data.toList.drop (p+1)))).toArray⟩),V.s (.int .i64 0),V.s (.int .i64 ln),V.s (.int .i64 cl)]]) base 5 48 v (.sl (H.length+1) 0 0 1 5)=some (v',C):=eC
 refine⟨v',_,?_,sC.tr (fr:=ja 197 (afj b d v' (p+(Tok.far Tok.within (b.data.toList.drop (p+1))+1)))) (aa8 (s:=5) (by decide) rfl),dn.tr kC _⟩
 rw[kg]
 have hbH:base<=H.length:=by omega
 simp only[afj,simprocAttr,I,aby,aa,hlt',hx,w,b32,n32,b9,n9,b13,n13,b10,n10,h59',hL,hlt1,hl,hspot H hbH,aia,hle,hex,eC']
def a8y(T:TR CT){base m:Nat}{b}(hb:b.size<=2^40){d:Nat}(hbd:base<=d)(hbm:base<=m){H v}{ln cl p:Nat}{R}(st:RefSt m H d v R)(hR:R.length<=p){c:UInt8}(hx:b.data.toList[p]?=some c)(hsp:Tok.spotL (b.data.toList.take p) (1,1)=(ln,cl))(hbl:Tok.blank c=false)(h59:c≠59)(hlt1:Tok.letter c=false)(hdg:Tok.digit c=false)(hsg:Tok.sign c=true):
 ∃v' H',itW (evC (gq CT) itW base zb) [55] m (ja 197 (afj b d v p)) H=itW (evC (gq CT) itW base zb) [55] m (ja 197 (afj b d v' (p+1))) H'/\RefSt m H' d v' (R++[tV ⟨3,[c],0,ln,cl⟩])/\dn m [] H H':=by
 have hlt:p<b.size:=(bmk.1 hx).1
 have hlt':((p:Int)<(b.size:Int)):=by omega
 have hdr:b.data.toList.drop p=c::b.data.toList.drop (p+1):=by
  rw[ed hlt,(bmk.1 hx).2]
 have hL:=abe T.letter;have hD:=ab4 T.digit;have hS:=adf T.sign c;have hmL:=st.len
 have hspot:=fun(H:Heap) (hH:base<=H.length)=>adx T.spot base H hH hb (q:=p) (by omega)
 simp only[hsp]at hspot
 have w:=uf (n:=p) (by omega)
 have ten:=amk c
 have b32:((c.toNat:Int)==32)=(c==32):=by rw[ib,dz,dz,p9];rfl
 have b9:((c.toNat:Int)==9)=(c==9):=by rw[ib,dz,dz,p9];rfl
 have b13:((c.toNat:Int)==13)=(c==13):=by rw[ib,dz,dz,p9];rfl
 have b10:((c.toNat:Int)==10)=(c==10):=by rw[ib,dz,dz,p9];rfl
 have h59':((c.toNat:Int)==59)=false:=by rw[cz];intro e;exact h59 ((p9 c 59).2 e)
 have nb:=hbl;unfold Tok.blank at nb;simp only[oz]at nb;obtain⟨⟨⟨n32,n9⟩,n13⟩,n10⟩:=nb
 have hle:(0<=(p:Int)/\(p:Int)<=((p+1:Nat):Int)/\((p+1:Nat):Int)<=(b.size:Int)):=by omega
 have hex:=extract_eq b p 1;rw[hdr,az,fq]at hex
 obtain⟨v',C,eC,sC,kC⟩:=st.app hbm (Ob.cells 0 [V.s (.int .i64 ln),V.s (.int .i64 cl)]) (row:=tV ⟨3,[c],0,ln,cl⟩) rfl rfl (by omega)
 have eC':qp (H++[Ob.cells 0 [V.s (.int .i64 ln),V.s (.int .i64 cl)]]++[Ob.cells 0 [V.s (.int .u8 3),V.s (.string ⟨#[c]⟩),V.s (.int .i64 0),V.s (.int .i64 ln),V.s (.int .i64 cl)]]) base 5 48 v (.sl (H.length+1) 0 0 1 5)=some (v',C):=eC
 refine⟨v',_,?_,sC.tr (fr:=ja 197 (afj b d v' (p+1))) (aa8 (s:=5) (by decide) rfl),dn.tr kC _⟩
 rw[kg]
 have hbH:base<=H.length:=by omega
 simp only[afj,simprocAttr,I,aby,aa,hlt',hx,w,b32,n32,b9,n9,b13,n13,b10,n10,h59',hL,hlt1,hD,hdg,hS,hsg,hspot H hbH,aia,hle,hex,eC']
def a88(T:TR CT){base m:Nat}{b}(hb:b.size<=2^40){d:Nat}(hbd:base<=d)(hbm:base<=m){H v}{ln cl p:Nat}{R}(st:RefSt m H d v R)(hR:R.length<=p){c:UInt8}(hx:b.data.toList[p]?=some c)(hsp:Tok.spotL (b.data.toList.take p) (1,1)=(ln,cl))(hbl:Tok.blank c=false)(h59:c≠59)(hlt1:Tok.letter c=false)(hdg:Tok.digit c=false)(hsg:Tok.sign c=false):
 ∃H',itW (evC (gq CT) itW base zb) [55] m (ja 197 (afj b d v p)) H=some (.ret,ja 197 [(2,ow),(3,.ref d 0 0),(4,.s (.int .i64 30))],H')/\getC H' d 0=some [I ln,I cl]/\dn m [d] H H':=by
 have hlt:p<b.size:=(bmk.1 hx).1
 have hlt':((p:Int)<(b.size:Int)):=by omega
 have hdr:b.data.toList.drop p=c::b.data.toList.drop (p+1):=by
  rw[ed hlt,(bmk.1 hx).2]
 have hL:=abe T.letter;have hD:=ab4 T.digit;have hS:=adf T.sign c;have hmL:=st.len
 have hspot:=fun(H:Heap) (hH:base<=H.length)=>adx T.spot base H hH hb (q:=p) (by omega)
 simp only[hsp]at hspot
 have w:=uf (n:=p) (by omega)
 have ten:=amk c
 have b32:((c.toNat:Int)==32)=(c==32):=by rw[ib,dz,dz,p9];rfl
 have b9:((c.toNat:Int)==9)=(c==9):=by rw[ib,dz,dz,p9];rfl
 have b13:((c.toNat:Int)==13)=(c==13):=by rw[ib,dz,dz,p9];rfl
 have b10:((c.toNat:Int)==10)=(c==10):=by rw[ib,dz,dz,p9];rfl
 have h59':((c.toNat:Int)==59)=false:=by rw[cz];intro e;exact h59 ((p9 c 59).2 e)
 have nb:=hbl;unfold Tok.blank at nb;simp only[oz]at nb;obtain⟨⟨⟨n32,n9⟩,n13⟩,n10⟩:=nb;obtain⟨x,y,hd⟩:=st.res;have hdm:=st.lt;have hdH:getC (H++[Ob.cells 0 [V.s (.int .i64 ln),V.s (.int .i64 cl)]]) d 0=some [x,y]:=ame hd
 obtain⟨s1,s2⟩:=ar8 (m:=m) (by simp;omega) hdH hdm (ja 197 [(2,ow),(3,.ref d 0 0),(4,.s (.int .i64 30))]) [I ln,I cl]
 have s3:dn m [d] H (Go.AM.trim m (ja 197 [(2,ow),(3,.ref d 0 0),(4,.s (.int .i64 30))]) ((H++[Ob.cells 0 [V.s (.int .i64 ln),V.s (.int .i64 cl)]]).set d (.cells 0 [I ln,I cl]))):=⟨s2.1,fun id h1 h2=>by rw[s2.2 id h1 h2,ah (by omega)]⟩
 refine⟨_,?_,s1,s3⟩;rw[kg]
 have hbH:base<=H.length:=by omega
 simp only[ow,simprocAttr,afj,I,aby,aa,hlt',hx,w,b32,n32,b9,n9,b13,n13,b10,n10,h59',hL,hlt1,hD,hdg,hS,hsg,hspot H hbH,hdH,hbd]
def awg(T:TR CT){base m:Nat}{b:ByteArray}(hb:b.size<=2^40){d:Nat}(hbd:base<=d)(hbm:base<=m){H:Heap}{v:V}{ln cl p:Nat}{R:List (List V)}(st:RefSt m H d v R)(hR:R.length<=p){c:UInt8}(hx:b.data.toList[p]?=some c)(hsp:Tok.spotL (b.data.toList.take p) (1,1)=(ln,cl))(hbl:Tok.blank c=false)(h59:c≠59)(hlt1:Tok.letter c=false)(hdg:Tok.digit c=true)(hco:(9<Tok.far Tok.digit (b.data.toList.drop (p+1))+1\/(1<Tok.far Tok.digit (b.data.toList.drop (p+1))+1/\c=48)\/Tok.far Tok.digit (b.data.toList.drop (p+1))<Tok.far Tok.within (b.data.toList.drop (p+1)))):
 ∃H',itW (evC (gq CT) itW base zb) [55] m (ja 197 (afj b d v p)) H=some (.ret,ja 197 [(2,ow),(3,.ref d 0 0),(4,.s (.int .i64 31))],H')/\getC H' d 0=some [I ln,I cl]/\dn m [d] H H':=by
 have hlt:p<b.size:=(bmk.1 hx).1
 have hlt':((p:Int)<(b.size:Int)):=by omega
 have hdr:b.data.toList.drop p=c::b.data.toList.drop (p+1):=by
  rw[ed hlt,(bmk.1 hx).2]
 have hL:=abe T.letter;have hD:=ab4 T.digit;have hS:=adf T.sign c;have hmL:=st.len
 have hspot:=fun(H:Heap) (hH:base<=H.length)=>adx T.spot base H hH hb (q:=p) (by omega)
 simp only[hsp]at hspot
 have w:=uf (n:=p) (by omega)
 have ten:=amk c
 have b32:((c.toNat:Int)==32)=(c==32):=by rw[ib,dz,dz,p9];rfl
 have b9:((c.toNat:Int)==9)=(c==9):=by rw[ib,dz,dz,p9];rfl
 have b13:((c.toNat:Int)==13)=(c==13):=by rw[ib,dz,dz,p9];rfl
 have b10:((c.toNat:Int)==10)=(c==10):=by rw[ib,dz,dz,p9];rfl
 have h59':((c.toNat:Int)==59)=false:=by rw[cz];intro e;exact h59 ((p9 c 59).2 e)
 have nb:=hbl;unfold Tok.blank at nb;simp only[oz]at nb;obtain⟨⟨⟨n32,n9⟩,n13⟩,n10⟩:=nb;have hfl:=Tok.far_le Tok.digit (b.data.toList.drop (p+1));rw[ig,show b.data.toList.length=b.size from rfl]at hfl
 have hl:=fun w7=>ank hD base hb (d:=d) (v:=v) (w7:=w7) (from':=p) (H:=H) (b.data.toList.drop p) 0 0 rfl (by omega) (by decide)
 simp only[hdr,Tok.far,dw hdg,I,ng,o7,show((0:Nat):Int)=0 from rfl]at hl
 have wf:IntKind.i64.wrap (((p+(Tok.far Tok.digit (b.data.toList.drop (p+1))+1):Nat):Int)-(p:Int))=((Tok.far Tok.digit (b.data.toList.drop (p+1))+1:Nat):Int):=by rw[IntKind.wrap_i64];omega
 have h48:((c.toNat:Int)==48)=decide (c=48):=by rw[ib,dz,jg,p9];rfl
 have q1:decide ((((Tok.far Tok.digit (b.data.toList.drop (p+1))+1:Nat):Int)) > 9)=decide (9<Tok.far Tok.digit (b.data.toList.drop (p+1))+1):=by rw[ib,jg,jg];omega
 have q2:decide ((((Tok.far Tok.digit (b.data.toList.drop (p+1))+1:Nat):Int)) > 1)=decide (1<Tok.far Tok.digit (b.data.toList.drop (p+1))+1):=by rw[ib,jg,jg];omega
 have hbH:base<=H.length:=by omega
 obtain⟨nv,hnv⟩:∃nv,a7l 0 0 (c::b.data.toList.drop (p+1))=nv:=⟨_,rfl⟩;simp only[hnv]at hl
 have hbeh:∀(hz:p+(Tok.far Tok.digit (b.data.toList.drop (p+1))+1)=b.size) ,¬(Tok.far Tok.digit (b.data.toList.drop (p+1))<Tok.far Tok.within (b.data.toList.drop (p+1))):=by
  intro hz h;have:=Tok.far_le Tok.within (b.data.toList.drop (p+1));rw[ig,show b.data.toList.length=b.size from rfl]at this;omega
 have hbe2:∀x,b.data.toList[p+(Tok.far Tok.digit (b.data.toList.drop (p+1))+1)]?=some x->(Tok.letter x||x==46)=decide (Tok.far Tok.digit (b.data.toList.drop (p+1))<Tok.far Tok.within (b.data.toList.drop (p+1))):=fun x hx=>apn hdr hx
 obtain⟨x,y,hd⟩:=st.res;have hdm:=st.lt;have hdH:getC (H++[Ob.cells 0 [V.s (.int .i64 ln),V.s (.int .i64 cl)]]) d 0=some [x,y]:=ame hd
 obtain⟨s1,s2⟩:=ar8 (m:=m) (by simp;omega) hdH hdm (ja 197 [(2,ow),(3,.ref d 0 0),(4,.s (.int .i64 31))]) [I ln,I cl]
 have s3:dn m [d] H (Go.AM.trim m (ja 197 [(2,ow),(3,.ref d 0 0),(4,.s (.int .i64 31))]) ((H++[Ob.cells 0 [V.s (.int .i64 ln),V.s (.int .i64 cl)]]).set d (.cells 0 [I ln,I cl]))):=⟨s2.1,fun id h1 h2=>by rw[s2.2 id h1 h2,ah (by omega)]⟩
 refine⟨_,?_,s1,s3⟩;rw[kg]
 have hcb:(decide (9<Tok.far Tok.digit (b.data.toList.drop (p+1))+1)||decide (1<Tok.far Tok.digit (b.data.toList.drop (p+1))+1)&&decide (c=48)||decide (Tok.far Tok.digit (b.data.toList.drop (p+1))<Tok.far Tok.within (b.data.toList.drop (p+1))))=true:=by
  simp only[kr,au,lm,or_assoc];exact hco
 by_cases hz:p+(Tok.far Tok.digit (b.data.toList.drop (p+1))+1)=b.size
 .have hz':decide (((p+(Tok.far Tok.digit (b.data.toList.drop (p+1))+1):Nat):Int)<(b.size:Int))=false:=by rw[zg];omega
  rw[uz (hbeh hz),zi]at hcb;simp only[ow,simprocAttr,afj,I,aby,aa,hlt',hx,w,b32,n32,b9,n9,b13,n13,b10,n10,h59',hL,hlt1,hD,hdg,hl,wf,h48,q1,q2,hspot H hbH,hz',hcb,hdH,hbd]
 .have hz':(((p+(Tok.far Tok.digit (b.data.toList.drop (p+1))+1):Nat):Int)<(b.size:Int)):=by omega
  obtain⟨x2,hx2⟩:∃x,b.data.toList[p+(Tok.far Tok.digit (b.data.toList.drop (p+1))+1)]?=some x:=⟨_,af (show p+(Tok.far Tok.digit (b.data.toList.drop (p+1))+1)<b.size by omega)⟩
  have hb2:=hbe2 x2 hx2;have dm:=a00 x2;cases hl2:Tok.letter x2 with
  |true=>
    simp only[ow,simprocAttr,afj,I,aby,aa,hlt',hx,w,b32,n32,b9,n9,b13,n13,b10,n10,h59',hL,hlt1,hD,hdg,hl,wf,h48,q1,q2,hspot H hbH,hz',hx2,hl2,hdH,hbd]
  |false=>
    rw[hl2,qo]at hb2;simp only[ow,simprocAttr,afj,I,aby,aa,hlt',hx,w,b32,n32,b9,n9,b13,n13,b10,n10,h59',hL,hlt1,hD,hdg,hl,wf,h48,q1,q2,hspot H hbH,hz',hx2,hl2,dm,hb2,hcb,hdH,hbd]
def bef(T:TR CT){base m:Nat}{b:ByteArray}(hb:b.size<=2^40){d:Nat}(hbd:base<=d)(hbm:base<=m){H:Heap}{v:V}{ln cl p:Nat}{R:List (List V)}(st:RefSt m H d v R)(hR:R.length<=p){c:UInt8}(hx:b.data.toList[p]?=some c)(hsp:Tok.spotL (b.data.toList.take p) (1,1)=(ln,cl))(hbl:Tok.blank c=false)(h59:c≠59)(hlt1:Tok.letter c=false)(hdg:Tok.digit c=true)(hco:¬(9<Tok.far Tok.digit (b.data.toList.drop (p+1))+1\/(1<Tok.far Tok.digit (b.data.toList.drop (p+1))+1/\c=48)\/Tok.far Tok.digit (b.data.toList.drop (p+1))<Tok.far Tok.within (b.data.toList.drop (p+1)))):
 ∃v' H',itW (evC (gq CT) itW base zb) [55] m (ja 197 (afj b d v p)) H=itW (evC (gq CT) itW base zb) [55] m (ja 197 (afj b d v' (p+(Tok.far Tok.digit (b.data.toList.drop (p+1))+1)))) H'/\RefSt m H' d v' (R++[tV ⟨2,c::(b.data.toList.drop (p+1)).take (Tok.far Tok.digit (b.data.toList.drop (p+1))),Tok.val (c::(b.data.toList.drop (p+1)).take (Tok.far Tok.digit (b.data.toList.drop (p+1)))),ln,cl⟩])/\dn m [] H H':=by
 have hlt:p<b.size:=(bmk.1 hx).1
 have hlt':((p:Int)<(b.size:Int)):=by omega
 have hdr:b.data.toList.drop p=c::b.data.toList.drop (p+1):=by
  rw[ed hlt,(bmk.1 hx).2]
 have hL:=abe T.letter;have hD:=ab4 T.digit;have hS:=adf T.sign c;have hmL:=st.len
 have hspot:=fun(H:Heap) (hH:base<=H.length)=>adx T.spot base H hH hb (q:=p) (by omega)
 simp only[hsp]at hspot
 have w:=uf (n:=p) (by omega)
 have ten:=amk c
 have b32:((c.toNat:Int)==32)=(c==32):=by rw[ib,dz,dz,p9];rfl
 have b9:((c.toNat:Int)==9)=(c==9):=by rw[ib,dz,dz,p9];rfl
 have b13:((c.toNat:Int)==13)=(c==13):=by rw[ib,dz,dz,p9];rfl
 have b10:((c.toNat:Int)==10)=(c==10):=by rw[ib,dz,dz,p9];rfl
 have h59':((c.toNat:Int)==59)=false:=by rw[cz];intro e;exact h59 ((p9 c 59).2 e)
 have nb:=hbl;unfold Tok.blank at nb;simp only[oz]at nb;obtain⟨⟨⟨n32,n9⟩,n13⟩,n10⟩:=nb;have hfl:=Tok.far_le Tok.digit (b.data.toList.drop (p+1));rw[ig,show b.data.toList.length=b.size from rfl]at hfl
 have hl:=fun w7=>ank hD base hb (d:=d) (v:=v) (w7:=w7) (from':=p) (H:=H) (b.data.toList.drop p) 0 0 rfl (by omega) (by decide)
 simp only[hdr,Tok.far,dw hdg,I,ng,o7,show((0:Nat):Int)=0 from rfl]at hl
 have wf:IntKind.i64.wrap (((p+(Tok.far Tok.digit (b.data.toList.drop (p+1))+1):Nat):Int)-(p:Int))=((Tok.far Tok.digit (b.data.toList.drop (p+1))+1:Nat):Int):=by rw[IntKind.wrap_i64];omega
 have h48:((c.toNat:Int)==48)=decide (c=48):=by rw[ib,dz,jg,p9];rfl
 have q1:decide ((((Tok.far Tok.digit (b.data.toList.drop (p+1))+1:Nat):Int)) > 9)=decide (9<Tok.far Tok.digit (b.data.toList.drop (p+1))+1):=by rw[ib,jg,jg];omega
 have q2:decide ((((Tok.far Tok.digit (b.data.toList.drop (p+1))+1:Nat):Int)) > 1)=decide (1<Tok.far Tok.digit (b.data.toList.drop (p+1))+1):=by rw[ib,jg,jg];omega
 have hbH:base<=H.length:=by omega
 obtain⟨nv,hnv⟩:∃nv,a7l 0 0 (c::b.data.toList.drop (p+1))=nv:=⟨_,rfl⟩;simp only[hnv]at hl
 have hbeh:∀(hz:p+(Tok.far Tok.digit (b.data.toList.drop (p+1))+1)=b.size) ,¬(Tok.far Tok.digit (b.data.toList.drop (p+1))<Tok.far Tok.within (b.data.toList.drop (p+1))):=by
  intro hz h;have:=Tok.far_le Tok.within (b.data.toList.drop (p+1));rw[ig,show b.data.toList.length=b.size from rfl]at this;omega
 have hbe2:∀x,b.data.toList[p+(Tok.far Tok.digit (b.data.toList.drop (p+1))+1)]?=some x->(Tok.letter x||x==46)=decide (Tok.far Tok.digit (b.data.toList.drop (p+1))<Tok.far Tok.within (b.data.toList.drop (p+1))):=fun x hx=>apn hdr hx
 have hval:nv=Tok.val (c::(b.data.toList.drop (p+1)).take (Tok.far Tok.digit (b.data.toList.drop (p+1)))):=by
  have h9:0+Tok.far Tok.digit (c::b.data.toList.drop (p+1))<=9:=by
   simp only[Tok.far,dw hdg];have:=fun h=>hco (.inl h);omega
  rw[<- hnv,ayh _ 0 0 h9];simp only[Tok.far,dw hdg,az];rfl
 have hle:(0<=(p:Int)/\(p:Int)<=((p+(Tok.far Tok.digit (b.data.toList.drop (p+1))+1):Nat):Int)/\((p+(Tok.far Tok.digit (b.data.toList.drop (p+1))+1):Nat):Int)<=(b.size:Int)):=by omega
 have hex:=extract_eq b p (Tok.far Tok.digit (b.data.toList.drop (p+1))+1);rw[hdr,az]at hex
 obtain⟨v',C,eC,sC,kC⟩:=st.app hbm (Ob.cells 0 [V.s (.int .i64 ln),V.s (.int .i64 cl)]) (row:=tV ⟨2,c::(b.data.toList.drop (p+1)).take (Tok.far Tok.digit (b.data.toList.drop (p+1))),nv,ln,cl⟩) rfl rfl (by omega)
 have eC':qp (H++[Ob.cells 0 [V.s (.int .i64 ln),V.s (.int .i64 cl)]]++[Ob.cells 0 [V.s (.int .u8 2),V.s (.string ⟨(c::(b.data.toList.drop (p+1)).take (Tok.far Tok.digit (b.data.toList.drop (p+1)))).toArray⟩),V.s (.int .i64 nv),V.s (.int .i64 ln),V.s (.int .i64 cl)]]) base 5 48 v (.sl (H.length+1) 0 0 1 5)=some (v',C):=eC;rw[<- hval]
 refine⟨v',_,?_,sC.tr (fr:=ja 197 (afj b d v' (p+(Tok.far Tok.digit (b.data.toList.drop (p+1))+1)))) (aa8 (s:=5) (by decide) rfl),dn.tr kC _⟩
 rw[kg]
 have hcb:(decide (9<Tok.far Tok.digit (b.data.toList.drop (p+1))+1)||decide (1<Tok.far Tok.digit (b.data.toList.drop (p+1))+1)&&decide (c=48)||decide (Tok.far Tok.digit (b.data.toList.drop (p+1))<Tok.far Tok.within (b.data.toList.drop (p+1))))=false:=by
  rw[<- oh];simp only[kr,au,lm,or_assoc];exact hco
 by_cases hz:p+(Tok.far Tok.digit (b.data.toList.drop (p+1))+1)=b.size
 .have hz':decide (((p+(Tok.far Tok.digit (b.data.toList.drop (p+1))+1):Nat):Int)<(b.size:Int))=false:=by rw[zg];omega
  rw[uz (hbeh hz),zi]at hcb;simp only[afj,simprocAttr,I,aby,aa,hlt',hx,w,b32,n32,b9,n9,b13,n13,b10,n10,h59',hL,hlt1,hD,hdg,hl,wf,h48,q1,q2,hspot H hbH,hz',hcb,aia,hle,hex,eC']
 .have hz':(((p+(Tok.far Tok.digit (b.data.toList.drop (p+1))+1):Nat):Int)<(b.size:Int)):=by omega
  obtain⟨x2,hx2⟩:∃x,b.data.toList[p+(Tok.far Tok.digit (b.data.toList.drop (p+1))+1)]?=some x:=⟨_,af (show p+(Tok.far Tok.digit (b.data.toList.drop (p+1))+1)<b.size by omega)⟩
  have hb2:=hbe2 x2 hx2;have dm:=a00 x2;cases hl2:Tok.letter x2 with
  |true=>
    rw[hl2,ru]at hb2;rw[<- hb2,afm]at hcb;cases hcb
  |false=>
    rw[hl2,qo]at hb2;simp only[afj,simprocAttr,I,aby,aa,hlt',hx,w,b32,n32,b9,n9,b13,n13,b10,n10,h59',hL,hlt1,hD,hdg,hl,wf,h48,q1,q2,hspot H hbH,hz',hx2,hl2,dm,hb2,hcb,aia,hle,hex,eC']
end
end Go.Proofs.YtbocmenkkjbigaaDoor
