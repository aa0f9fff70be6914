/- The functions' code,as the evaluator has it. -/
import Derived.Test.YtabnemidjklolaaGreatDoorEvD
import Derived.Test.YtabnemidjklolaaGreatDoorLg
import Derived.Test.YtabnemidjklolaaGreatDoorProg
set_option maxRecDepth 100000
noncomputable section
set_option maxHeartbeats 0
namespace Go.Ev
open Go.Proofs
noncomputable def cd(n:Nat):au:=match(Tryz.prog.funcs[n]?).bind (gi Tryz.prog n)with|some (.code _ _ c)=>c|_=>.bad
def hd:Nat->au->au|0,.seq a _=>a|n+1,.seq _ b=>hd n b|_,c=>c
def cl:au->List au|.seq a b=>cl a++cl b|.cond _ a b=>cl a++cl b|.block _ a=>cl a|.loop a=>[a]|_=>[]
def lb(i:Nat)(c:au):au:=(cl c).getD i .bad
def rl:au->List au->(au->List au->au)->au|.seq a b,l,k=>rl a l λa l=>rl b l λb l=>k (.seq a b) l|.cond c a b,l,k=>rl a l λa l=>rl b l λb l=>k (.cond c a b) l|.block i a,l,k=>rl a l λa l=>k (.block i a) l|.loop _,x::l,k=>k (.loop x) l|c,l,k=>k c l
def lm(l:List au)(c:au):au:=rl c l λc _=>c
def rp(i:Nat)(l:List au)(c x:au):au:=.seq (lm l (hd i c)) x
def sp(i:Nat)(c x:au):au:=.seq (hd i c) x
abbrev oo(x:au){y:au}(_:x=y):au:=y
abbrev oA(x:au->au){y:au->au}(_:x=y)(a:au):au:=y a
abbrev oB(x:au->au->au){y:au->au->au}(_:x=y)(a b:au):au:=y a b
abbrev oD(x:au->au->au->au){y:au->au->au->au}(_:x=y)(a b c:au):au:=y a b c
attribute[go_sem]oo oA oB oD
abbrev oP(d:Option Slot)(x:ld):CL:=⟨0,d,none,0,x⟩
abbrev CN(x y:Arg):ld:=.cmp 3 (.lt 9223372036854775808 18446744073709551616) x y
abbrev gt3(x y:Arg):ld:=.cmp 3 (.gt 9223372036854775808 18446744073709551616) x y
abbrev Fj(x y:Arg):ld:=.cmp 3 .ne x y
abbrev UT(x y:Arg):ld:=.cmp 3 .eq x y
abbrev GK(x y:Arg):ld:=.bin 3 3 (.add 18446744073709551616) x y
abbrev sb3(x y:Arg):ld:=.bin 3 3 (.sub 18446744073709551616) x y
abbrev kI(k n:Nat):Arg:=.c (.int k n)
abbrev oM(d:Option Slot)(x:Arg):CL:=⟨0,d,none,0,.gJ x⟩
abbrev oF(d:Option Slot)(n:Nat)(x:Arg):CL:=⟨0,d,none,0,.gI n x⟩
abbrev oL(d:Option Slot)(x:Arg):CL:=⟨0,d,none,0,.cQ x⟩
abbrev oX(d:Option Slot)(x:Arg)(n:Nat):CL:=⟨0,d,none,0,.RT x n⟩
abbrev oN(d:Option Slot)(x:Arg):CL:=⟨0,d,none,0,.Fm x⟩
abbrev oC(d:Option Slot)(f:Nat)(l:List Arg):CL:=⟨0,d,none,0,.call f l⟩
abbrev gF(a b c:I8):Option (Slot×Bool):=some (⟨a,b,c⟩,false)
abbrev gT(a b c:I8):Option (Slot×Bool):=some (⟨a,b,c⟩,true)
abbrev sR(l:List CL)(b:au):au:=.seq (.qX l) b
abbrev s000:Slot:=⟨.i0,.i0,.i0⟩
abbrev s001:Slot:=⟨.i0,.i0,.i1⟩
abbrev s002:Slot:=⟨.i0,.i0,.i2⟩
abbrev s003:Slot:=⟨.i0,.i0,.i3⟩
abbrev s004:Slot:=⟨.i0,.i0,.i4⟩
abbrev s005:Slot:=⟨.i0,.i0,.i5⟩
abbrev s006:Slot:=⟨.i0,.i0,.i6⟩
abbrev s007:Slot:=⟨.i0,.i0,.i7⟩
abbrev s010:Slot:=⟨.i0,.i1,.i0⟩
abbrev s011:Slot:=⟨.i0,.i1,.i1⟩
abbrev s012:Slot:=⟨.i0,.i1,.i2⟩
abbrev s013:Slot:=⟨.i0,.i1,.i3⟩
abbrev s014:Slot:=⟨.i0,.i1,.i4⟩
abbrev s015:Slot:=⟨.i0,.i1,.i5⟩
abbrev s016:Slot:=⟨.i0,.i1,.i6⟩
abbrev s017:Slot:=⟨.i0,.i1,.i7⟩
abbrev s020:Slot:=⟨.i0,.i2,.i0⟩
abbrev s021:Slot:=⟨.i0,.i2,.i1⟩
abbrev s022:Slot:=⟨.i0,.i2,.i2⟩
abbrev s023:Slot:=⟨.i0,.i2,.i3⟩
abbrev s024:Slot:=⟨.i0,.i2,.i4⟩
abbrev s025:Slot:=⟨.i0,.i2,.i5⟩
abbrev s026:Slot:=⟨.i0,.i2,.i6⟩
abbrev s027:Slot:=⟨.i0,.i2,.i7⟩
abbrev s030:Slot:=⟨.i0,.i3,.i0⟩
abbrev s031:Slot:=⟨.i0,.i3,.i1⟩
abbrev s032:Slot:=⟨.i0,.i3,.i2⟩
abbrev s033:Slot:=⟨.i0,.i3,.i3⟩
abbrev s034:Slot:=⟨.i0,.i3,.i4⟩
abbrev s035:Slot:=⟨.i0,.i3,.i5⟩
abbrev s036:Slot:=⟨.i0,.i3,.i6⟩
abbrev s037:Slot:=⟨.i0,.i3,.i7⟩
abbrev s040:Slot:=⟨.i0,.i4,.i0⟩
abbrev s041:Slot:=⟨.i0,.i4,.i1⟩
abbrev s042:Slot:=⟨.i0,.i4,.i2⟩
abbrev s043:Slot:=⟨.i0,.i4,.i3⟩
abbrev s044:Slot:=⟨.i0,.i4,.i4⟩
abbrev s045:Slot:=⟨.i0,.i4,.i5⟩
abbrev s046:Slot:=⟨.i0,.i4,.i6⟩
abbrev s047:Slot:=⟨.i0,.i4,.i7⟩
abbrev s050:Slot:=⟨.i0,.i5,.i0⟩
abbrev s051:Slot:=⟨.i0,.i5,.i1⟩
abbrev s052:Slot:=⟨.i0,.i5,.i2⟩
abbrev s053:Slot:=⟨.i0,.i5,.i3⟩
abbrev s054:Slot:=⟨.i0,.i5,.i4⟩
abbrev s055:Slot:=⟨.i0,.i5,.i5⟩
abbrev s056:Slot:=⟨.i0,.i5,.i6⟩
abbrev s057:Slot:=⟨.i0,.i5,.i7⟩
abbrev s060:Slot:=⟨.i0,.i6,.i0⟩
abbrev s061:Slot:=⟨.i0,.i6,.i1⟩
abbrev s062:Slot:=⟨.i0,.i6,.i2⟩
abbrev s063:Slot:=⟨.i0,.i6,.i3⟩
abbrev s064:Slot:=⟨.i0,.i6,.i4⟩
abbrev s065:Slot:=⟨.i0,.i6,.i5⟩
abbrev s066:Slot:=⟨.i0,.i6,.i6⟩
abbrev s067:Slot:=⟨.i0,.i6,.i7⟩
abbrev s070:Slot:=⟨.i0,.i7,.i0⟩
abbrev s071:Slot:=⟨.i0,.i7,.i1⟩
abbrev s072:Slot:=⟨.i0,.i7,.i2⟩
abbrev s073:Slot:=⟨.i0,.i7,.i3⟩
abbrev s074:Slot:=⟨.i0,.i7,.i4⟩
abbrev s075:Slot:=⟨.i0,.i7,.i5⟩
abbrev s076:Slot:=⟨.i0,.i7,.i6⟩
abbrev s077:Slot:=⟨.i0,.i7,.i7⟩
abbrev s100:Slot:=⟨.i1,.i0,.i0⟩
abbrev s101:Slot:=⟨.i1,.i0,.i1⟩
abbrev s102:Slot:=⟨.i1,.i0,.i2⟩
abbrev s103:Slot:=⟨.i1,.i0,.i3⟩
abbrev s104:Slot:=⟨.i1,.i0,.i4⟩
abbrev s105:Slot:=⟨.i1,.i0,.i5⟩
abbrev s106:Slot:=⟨.i1,.i0,.i6⟩
abbrev s107:Slot:=⟨.i1,.i0,.i7⟩
abbrev s110:Slot:=⟨.i1,.i1,.i0⟩
abbrev s111:Slot:=⟨.i1,.i1,.i1⟩
abbrev s112:Slot:=⟨.i1,.i1,.i2⟩
abbrev s113:Slot:=⟨.i1,.i1,.i3⟩
abbrev s114:Slot:=⟨.i1,.i1,.i4⟩
abbrev s115:Slot:=⟨.i1,.i1,.i5⟩
abbrev s116:Slot:=⟨.i1,.i1,.i6⟩
abbrev s117:Slot:=⟨.i1,.i1,.i7⟩
abbrev s120:Slot:=⟨.i1,.i2,.i0⟩
abbrev s121:Slot:=⟨.i1,.i2,.i1⟩
abbrev s122:Slot:=⟨.i1,.i2,.i2⟩
abbrev s123:Slot:=⟨.i1,.i2,.i3⟩
abbrev s124:Slot:=⟨.i1,.i2,.i4⟩
abbrev s125:Slot:=⟨.i1,.i2,.i5⟩
abbrev s126:Slot:=⟨.i1,.i2,.i6⟩
abbrev s127:Slot:=⟨.i1,.i2,.i7⟩
abbrev s130:Slot:=⟨.i1,.i3,.i0⟩
abbrev s131:Slot:=⟨.i1,.i3,.i1⟩
abbrev s132:Slot:=⟨.i1,.i3,.i2⟩
abbrev s133:Slot:=⟨.i1,.i3,.i3⟩
abbrev s134:Slot:=⟨.i1,.i3,.i4⟩
abbrev s135:Slot:=⟨.i1,.i3,.i5⟩
abbrev s136:Slot:=⟨.i1,.i3,.i6⟩
abbrev s137:Slot:=⟨.i1,.i3,.i7⟩
abbrev s140:Slot:=⟨.i1,.i4,.i0⟩
abbrev s141:Slot:=⟨.i1,.i4,.i1⟩
abbrev s142:Slot:=⟨.i1,.i4,.i2⟩
abbrev s143:Slot:=⟨.i1,.i4,.i3⟩
abbrev s144:Slot:=⟨.i1,.i4,.i4⟩
abbrev s145:Slot:=⟨.i1,.i4,.i5⟩
abbrev s146:Slot:=⟨.i1,.i4,.i6⟩
abbrev s147:Slot:=⟨.i1,.i4,.i7⟩
abbrev s150:Slot:=⟨.i1,.i5,.i0⟩
abbrev s151:Slot:=⟨.i1,.i5,.i1⟩
abbrev s152:Slot:=⟨.i1,.i5,.i2⟩
abbrev s153:Slot:=⟨.i1,.i5,.i3⟩
abbrev s154:Slot:=⟨.i1,.i5,.i4⟩
abbrev s155:Slot:=⟨.i1,.i5,.i5⟩
abbrev s156:Slot:=⟨.i1,.i5,.i6⟩
abbrev s157:Slot:=⟨.i1,.i5,.i7⟩
abbrev s160:Slot:=⟨.i1,.i6,.i0⟩
abbrev s161:Slot:=⟨.i1,.i6,.i1⟩
abbrev s162:Slot:=⟨.i1,.i6,.i2⟩
abbrev s163:Slot:=⟨.i1,.i6,.i3⟩
abbrev s164:Slot:=⟨.i1,.i6,.i4⟩
abbrev s165:Slot:=⟨.i1,.i6,.i5⟩
abbrev s166:Slot:=⟨.i1,.i6,.i6⟩
abbrev s167:Slot:=⟨.i1,.i6,.i7⟩
abbrev s170:Slot:=⟨.i1,.i7,.i0⟩
abbrev s171:Slot:=⟨.i1,.i7,.i1⟩
abbrev s172:Slot:=⟨.i1,.i7,.i2⟩
abbrev s173:Slot:=⟨.i1,.i7,.i3⟩
abbrev s174:Slot:=⟨.i1,.i7,.i4⟩
abbrev s175:Slot:=⟨.i1,.i7,.i5⟩
abbrev s176:Slot:=⟨.i1,.i7,.i6⟩
abbrev s177:Slot:=⟨.i1,.i7,.i7⟩
abbrev s200:Slot:=⟨.i2,.i0,.i0⟩
abbrev s201:Slot:=⟨.i2,.i0,.i1⟩
abbrev s202:Slot:=⟨.i2,.i0,.i2⟩
abbrev s203:Slot:=⟨.i2,.i0,.i3⟩
abbrev s204:Slot:=⟨.i2,.i0,.i4⟩
abbrev s205:Slot:=⟨.i2,.i0,.i5⟩
abbrev s206:Slot:=⟨.i2,.i0,.i6⟩
abbrev s207:Slot:=⟨.i2,.i0,.i7⟩
abbrev s210:Slot:=⟨.i2,.i1,.i0⟩
abbrev ik:Arg:=.s s000
abbrev lD:Arg:=.s s001
abbrev sN:Arg:=.s s002
abbrev sO:Arg:=.s s003
abbrev eC:Arg:=.s s004
abbrev lS:Arg:=.s s005
abbrev rF:Arg:=.s s006
abbrev jz:Arg:=.s s007
abbrev iZ:Arg:=.s s010
abbrev kf:Arg:=.s s011
abbrev nM:Arg:=.s s012
abbrev sS:Arg:=.s s013
abbrev lT:Arg:=.s s014
abbrev nU:Arg:=.s s015
abbrev qg:Arg:=.s s016
abbrev lU:Arg:=.s s017
abbrev vR:Arg:=.s s020
abbrev uL:Arg:=.s s021
abbrev sU:Arg:=.s s022
abbrev vT:Arg:=.s s023
abbrev vU:Arg:=.s s024
abbrev yx:Arg:=.s s025
abbrev yz:Arg:=.s s026
abbrev yA:Arg:=.s s027
abbrev yB:Arg:=.s s030
abbrev yC:Arg:=.s s031
abbrev uM:Arg:=.s s032
abbrev yD:Arg:=.s s033
abbrev vV:Arg:=.s s034
abbrev CV:Arg:=.s s035
abbrev CW:Arg:=.s s036
abbrev CX:Arg:=.s s037
abbrev CY:Arg:=.s s040
abbrev CZ:Arg:=.s s041
abbrev Hc:Arg:=.s s042
abbrev yE:Arg:=.s s043
abbrev Lj:Arg:=.s s044
abbrev Lk:Arg:=.s s045
abbrev Ll:Arg:=.s s046
abbrev Lm:Arg:=.s s047
abbrev Ln:Arg:=.s s050
abbrev Lo:Arg:=.s s051
abbrev Lp:Arg:=.s s052
abbrev Lq:Arg:=.s s053
abbrev Lr:Arg:=.s s054
abbrev Ls:Arg:=.s s055
abbrev OM:Arg:=.s s056
abbrev Lt:Arg:=.s s057
abbrev Hd:Arg:=.s s060
abbrev Lu:Arg:=.s s061
abbrev Lv:Arg:=.s s062
abbrev Lw:Arg:=.s s063
abbrev Lx:Arg:=.s s064
abbrev Ly:Arg:=.s s065
abbrev Lz:Arg:=.s s066
abbrev LD:Arg:=.s s067
abbrev LF:Arg:=.s s070
abbrev He:Arg:=.s s071
abbrev Hf:Arg:=.s s072
abbrev LG:Arg:=.s s073
abbrev C7:Arg:=.s s074
abbrev LH:Arg:=.s s075
abbrev LJ:Arg:=.s s076
abbrev LK:Arg:=.s s077
abbrev LL:Arg:=.s s100
abbrev LM:Arg:=.s s101
abbrev Hg:Arg:=.s s102
abbrev LN:Arg:=.s s103
abbrev ON:Arg:=.s s104
abbrev a105:Arg:=.s s105
abbrev OO:Arg:=.s s106
abbrev a107:Arg:=.s s107
abbrev LO:Arg:=.s s110
abbrev OP:Arg:=.s s111
abbrev OQ:Arg:=.s s112
abbrev OS:Arg:=.s s113
abbrev OT:Arg:=.s s114
abbrev OU:Arg:=.s s115
abbrev a116:Arg:=.s s116
abbrev a117:Arg:=.s s117
abbrev OV:Arg:=.s s120
abbrev OW:Arg:=.s s121
abbrev OX:Arg:=.s s122
abbrev OY:Arg:=.s s123
abbrev a124:Arg:=.s s124
abbrev Uo:Arg:=.s s125
abbrev Up:Arg:=.s s126
abbrev a127:Arg:=.s s127
abbrev a130:Arg:=.s s130
abbrev a131:Arg:=.s s131
abbrev ZK:Arg:=.s s132
abbrev ZL:Arg:=.s s133
abbrev ZM:Arg:=.s s134
abbrev ZN:Arg:=.s s135
abbrev ab8:Arg:=.s s136
abbrev ab9:Arg:=.s s137
abbrev ZO:Arg:=.s s140
abbrev a141:Arg:=.s s141
abbrev aca:Arg:=.s s142
abbrev a143:Arg:=.s s143
abbrev acb:Arg:=.s s144
abbrev a145:Arg:=.s s145
abbrev a146:Arg:=.s s146
abbrev acd:Arg:=.s s147
abbrev ace:Arg:=.s s150
abbrev acf:Arg:=.s s151
abbrev a152:Arg:=.s s152
abbrev acg:Arg:=.s s153
abbrev a154:Arg:=.s s154
abbrev ach:Arg:=.s s155
abbrev a156:Arg:=.s s156
abbrev a157:Arg:=.s s157
abbrev a160:Arg:=.s s160
abbrev aci:Arg:=.s s161
abbrev a162:Arg:=.s s162
abbrev acj:Arg:=.s s163
abbrev a164:Arg:=.s s164
abbrev ack:Arg:=.s s165
abbrev acm:Arg:=.s s166
abbrev a167:Arg:=.s s167
abbrev acn:Arg:=.s s170
abbrev a171:Arg:=.s s171
abbrev aco:Arg:=.s s172
abbrev a173:Arg:=.s s173
abbrev acp:Arg:=.s s174
abbrev a175:Arg:=.s s175
abbrev acq:Arg:=.s s176
abbrev acr:Arg:=.s s177
abbrev afu:Arg:=.s s200
abbrev a201:Arg:=.s s201
abbrev afv:Arg:=.s s202
abbrev a203:Arg:=.s s203
abbrev afw:Arg:=.s s204
abbrev afx:Arg:=.s s205
abbrev a206:Arg:=.s s206
abbrev afy:Arg:=.s s207
abbrev a210:Arg:=.s s210
abbrev aiQ:Option Slot:=some s000
abbrev agr:Option Slot:=some s001
abbrev uO:Option Slot:=some s002
abbrev uP:Option Slot:=some s003
abbrev jK:Option Slot:=some s004
abbrev oq:Option Slot:=some s005
abbrev jB:Option Slot:=some s006
abbrev tf:Option Slot:=some s007
abbrev ou:Option Slot:=some s010
abbrev uQ:Option Slot:=some s011
abbrev wH:Option Slot:=some s012
abbrev yK:Option Slot:=some s013
abbrev yL:Option Slot:=some s014
abbrev wI:Option Slot:=some s015
abbrev wJ:Option Slot:=some s016
abbrev uR:Option Slot:=some s017
abbrev Bq:Option Slot:=some s020
abbrev yM:Option Slot:=some s021
abbrev yN:Option Slot:=some s022
abbrev yO:Option Slot:=some s023
abbrev yP:Option Slot:=some s024
abbrev yQ:Option Slot:=some s025
abbrev yR:Option Slot:=some s026
abbrev yS:Option Slot:=some s027
abbrev yT:Option Slot:=some s030
abbrev yU:Option Slot:=some s031
abbrev Br:Option Slot:=some s032
abbrev Bs:Option Slot:=some s033
abbrev Bt:Option Slot:=some s034
abbrev DX:Option Slot:=some s035
abbrev DY:Option Slot:=some s036
abbrev DZ:Option Slot:=some s037
abbrev D0:Option Slot:=some s040
abbrev HM:Option Slot:=some s041
abbrev HN:Option Slot:=some s042
abbrev D6:Option Slot:=some s043
abbrev L4:Option Slot:=some s044
abbrev L5:Option Slot:=some s045
abbrev L6:Option Slot:=some s046
abbrev L7:Option Slot:=some s047
abbrev L8:Option Slot:=some s050
abbrev L9:Option Slot:=some s051
abbrev Ma:Option Slot:=some s052
abbrev Mb:Option Slot:=some s053
abbrev Mc:Option Slot:=some s054
abbrev Md:Option Slot:=some s055
abbrev Me:Option Slot:=some s056
abbrev Mf:Option Slot:=some s057
abbrev Mg:Option Slot:=some s060
abbrev Mh:Option Slot:=some s061
abbrev Mj:Option Slot:=some s062
abbrev Mk:Option Slot:=some s063
abbrev Mm:Option Slot:=some s064
abbrev Mn:Option Slot:=some s065
abbrev Mo:Option Slot:=some s066
abbrev Mp:Option Slot:=some s067
abbrev Mq:Option Slot:=some s070
abbrev Mr:Option Slot:=some s071
abbrev Mt:Option Slot:=some s072
abbrev Mu:Option Slot:=some s073
abbrev HP:Option Slot:=some s074
abbrev Mv:Option Slot:=some s075
abbrev Mw:Option Slot:=some s076
abbrev Mx:Option Slot:=some s077
abbrev d100:Option Slot:=some s100
abbrev d101:Option Slot:=some s101
abbrev d102:Option Slot:=some s102
abbrev d103:Option Slot:=some s103
abbrev d104:Option Slot:=some s104
abbrev d105:Option Slot:=some s105
abbrev d106:Option Slot:=some s106
abbrev d107:Option Slot:=some s107
abbrev d110:Option Slot:=some s110
abbrev d111:Option Slot:=some s111
abbrev d112:Option Slot:=some s112
abbrev d113:Option Slot:=some s113
abbrev d114:Option Slot:=some s114
abbrev d115:Option Slot:=some s115
abbrev d116:Option Slot:=some s116
abbrev d117:Option Slot:=some s117
abbrev d120:Option Slot:=some s120
abbrev d121:Option Slot:=some s121
abbrev d122:Option Slot:=some s122
abbrev d123:Option Slot:=some s123
abbrev d124:Option Slot:=some s124
abbrev d125:Option Slot:=some s125
abbrev d126:Option Slot:=some s126
abbrev d127:Option Slot:=some s127
abbrev d130:Option Slot:=some s130
abbrev d131:Option Slot:=some s131
abbrev d132:Option Slot:=some s132
abbrev d133:Option Slot:=some s133
abbrev d134:Option Slot:=some s134
abbrev d135:Option Slot:=some s135
abbrev d136:Option Slot:=some s136
abbrev d137:Option Slot:=some s137
abbrev d140:Option Slot:=some s140
abbrev d141:Option Slot:=some s141
abbrev d142:Option Slot:=some s142
abbrev d143:Option Slot:=some s143
abbrev d144:Option Slot:=some s144
abbrev d145:Option Slot:=some s145
abbrev d146:Option Slot:=some s146
abbrev d147:Option Slot:=some s147
abbrev d150:Option Slot:=some s150
abbrev d151:Option Slot:=some s151
abbrev d152:Option Slot:=some s152
abbrev d153:Option Slot:=some s153
abbrev d154:Option Slot:=some s154
abbrev d155:Option Slot:=some s155
abbrev d156:Option Slot:=some s156
abbrev d157:Option Slot:=some s157
abbrev d160:Option Slot:=some s160
abbrev d161:Option Slot:=some s161
abbrev d162:Option Slot:=some s162
abbrev d163:Option Slot:=some s163
abbrev d164:Option Slot:=some s164
abbrev d165:Option Slot:=some s165
abbrev d166:Option Slot:=some s166
abbrev d167:Option Slot:=some s167
abbrev d170:Option Slot:=some s170
abbrev d171:Option Slot:=some s171
abbrev d172:Option Slot:=some s172
abbrev d173:Option Slot:=some s173
abbrev d174:Option Slot:=some s174
abbrev d175:Option Slot:=some s175
abbrev d176:Option Slot:=some s176
abbrev d177:Option Slot:=some s177
abbrev d200:Option Slot:=some s200
abbrev d201:Option Slot:=some s201
abbrev d202:Option Slot:=some s202
abbrev d203:Option Slot:=some s203
abbrev d204:Option Slot:=some s204
abbrev d205:Option Slot:=some s205
abbrev d206:Option Slot:=some s206
abbrev d207:Option Slot:=some s207
abbrev d210:Option Slot:=some s210
def C3:=oo (cd 3) (by conv=>lhs;reduce)
def Du:=oo (lb 0 C3) (by conv=>lhs;reduce)
def ac2:au:=.ret
def ac1:=oA (sp 6 C3) (by conv=>lhs;reduce) ac2
def ac0:=oB (λa x=>rp 5 [a] C3 x) (by conv=>lhs;reduce) Du ac1
def acZ:=oA (sp 4 C3) (by conv=>lhs;reduce) ac0
def acY:=oA (sp 3 C3) (by conv=>lhs;reduce) acZ
def acX:=oA (sp 2 C3) (by conv=>lhs;reduce) acY
def acW:=oA (sp 1 C3) (by conv=>lhs;reduce) acX
def c3:=oA (sp 0 C3) (by conv=>lhs;reduce) acW
def afR:au:=(.seq (sR [oM Bs nM,oM Bt ik,oP DX (.ft vV),oP DY (CN yD CV),oM DZ CW,⟨0,D0,(gT .i0 .i3 .i7),0,(.gJ nM)⟩,⟨0,HM,(gT .i0 .i3 .i7),0,(CN CY (kI 3 8))⟩,oP HN (.pick CX CZ (.c (.bool false)))] (.cond Hc .skip (.exit 0))) (.seq (.block 1 (.qX [oM L5 iZ,oM L6 kf,oM L7 ik,oM L8 nM,oP L9 (.yZ 3 Lm Ln),oP Ma (.cI 3 Lo),oM Mb nM,oP Mc (GK Lq (kI 3 1)),oP Md (.wD 3 7 0 18446744073709551616 Lr),oC Me 20 [Lk,Ll,Lp,Ls]])) (.qX [oM D6 nM,oP L4 (GK yE (kI 3 1)),oM wH Lj])))
def afS:au:=(.seq (sR [oM Mv qg,oP Mw (CN LH (kI 3 8))] (.cond LJ .skip (.exit 2))) (.seq (.block 3 (.qX [oM d101 nU,oM d102 qg,oM d103 qg,oP d104 (.ixA 8 1 eC LN),oL d105 ON,oP d106 (.bin 4 4 (.rem 256) a105 (kI 4 200)),oC d107 30 [OO],oP d110 (.build [(.int 3 0),(.str 0 0)] [⟨0,⟨1,Hg⟩⟩,⟨1,⟨1,a107⟩⟩]),oP d111 (.jA false 1 [(.int 3 0),(.str 0 0)] [⟨0,⟨2,LO⟩⟩]),oP d112 (.app false 2 LM OP),oM wI OQ])) (.qX [oM Mx qg,oP d100 (GK LK (kI 3 1)),oM wJ LL])))
def afT:au:=(.seq (sR [oM d113 lU,oP d114 (CN OS (kI 3 8))] (.cond OT .skip (.exit 4))) (.seq (.block 5 (sR [oM d117 lU,oP d120 (GK a117 (kI 3 1)),oF d121 4 lT,oP none (.ek OW OV)] (.seq (.seq (.th [oM d122 iZ,oP d123 (.cI 7 lT),oM d124 nU,oM d125 lU,oM d126 lU,oP d127 (GK Up (kI 3 1)),oP d130 (.slV 2 a124 (some Uo) (some a127) none),oC d131 32 [OX,OY,a130],oP d132 (Fj a131 (kI 3 0))]) (.cond ZK (sR [oP jB (.gJ (.c (.bool false)))] .ret) .skip)) (.seq (sR [oM d133 lU,oM d134 sN,oP d135 (.bin 4 4 (.rem 256) ZM (kI 4 8)),oP d136 (.wD 4 3 0 18446744073709551616 ZN),oP d137 (UT ZL ab8)] (.cond ab9 (sR [oM d141 jz,oC d142 22 [a141],oM d140 aca,oX d143 ZO 0,oX d144 ZO 1,oM Bq a143,oM yM acb] (.seq (sR [oM d145 uL,oP d146 (Fj a145 (kI 3 0))] (.cond a146 (sR [oP jB (.gJ (.c (.bool false)))] .ret) .skip)) (.qX [oM d147 vR,oM ou acd]))) .skip)) (sR [oM d150 lU,oP d151 (CN ace (kI 3 7)),oM d152 acf,⟨0,d153,(gT .i1 .i5 .i2),0,(.gJ iZ)⟩,⟨0,d154,(gT .i1 .i5 .i2),0,(.gJ kf)⟩,⟨0,d155,(gT .i1 .i5 .i2),0,(.call 24 [acg,a154])⟩,⟨0,d156,(gT .i1 .i5 .i2),0,(.uT ach)⟩,⟨0,d157,(gT .i1 .i5 .i2),0,(.gJ a156)⟩,⟨0,d160,(gF .i1 .i5 .i7),0,(.gJ iZ)⟩,⟨0,d161,(gF .i1 .i5 .i7),0,(.call 34 [a160])⟩,⟨0,d162,(gF .i1 .i5 .i7),0,(.MQ 4 aci)⟩,⟨0,d163,(gF .i1 .i5 .i7),0,(.gJ lU)⟩,⟨0,d164,(gF .i1 .i5 .i7),0,(GK acj (kI 3 1))⟩,⟨0,d165,(gF .i1 .i5 .i7),0,(Fj a162 a164)⟩,⟨0,d166,(gT .i1 .i5 .i2),0,(.pick a157 (.c (.bool true)) ack)⟩,oP d167 (.pick a152 acm (.c (.bool false)))] (.cond a167 (sR [oP jB (.gJ (.c (.bool false)))] .ret) .skip)))))) (.qX [oM d115 lU,oP d116 (GK OU (kI 3 1)),oM uR a116])))
def ac9:au:=.ret
def ac8:au:=(sR [oM d170 kf,oC d171 28 [(kI 7 2),(kI 7 1)],oM d172 nU,oC d173 36 [acn,a171,aco],oP d174 (UT a173 (kI 3 0)),oM d175 acp,⟨0,d176,(gT .i1 .i7 .i5),0,(.gJ iZ)⟩,⟨0,d177,(gT .i1 .i7 .i5),0,(.gJ kf)⟩,⟨0,d200,(gT .i1 .i7 .i5),0,(.call 24 [acq,acr])⟩,oP d201 (.pick a175 afu (.c (.bool false))),oM d202 a201,⟨0,d203,(gT .i2 .i0 .i2),0,(.gJ iZ)⟩,⟨0,d204,(gT .i2 .i0 .i2),0,(.call 34 [a203])⟩,⟨0,d205,(gT .i2 .i0 .i2),0,(.MR 2 2 afw)⟩,⟨0,d206,(gT .i2 .i0 .i2),0,(.call 28 [(kI 7 0),(kI 7 0)])⟩,⟨0,d207,(gT .i2 .i0 .i2),0,(.jb [1,1] false afx a206)⟩,oP d210 (.pick afv afy (.c (.bool false))),oM jB a210] ac9)
def ac7:au:=(.seq (sR [oM uR (kI 3 0)] (.block 4 (.loop afT))) ac8)
def ac6:au:=(.seq (sR [oM wJ (kI 3 0)] (.block 2 (.loop afS))) ac7)
def af2:au:=(sR [oP wI (.gJ (.c .aD))] ac6)
def af1:au:=(.seq (sR [oM Mk sS,oP Mm (.ft Lw),oP Mn (gt3 Lx (kI 3 0))] (.cond Ly (.qX [oM Mo sS,oM Mp sS,oP Mq (.ft LD),oP Mr (sb3 LF (kI 3 1)),oP Mt (.yZ 2 Lz He),oP Mu (.cI 2 Hf),oF HP 0 lT,oP none (.jF 2 C7 LG)]) .skip)) af2)
def af0:au:=(sR [oC Mh 28 [(kI 7 2),(kI 7 1)],oP Mj (.build [(.int 7 0),(.int 7 0),(.int 7 0),(.int 7 0),(.int 3 0),(.int 3 0),.aD] [⟨2,⟨2,Lu⟩⟩,⟨5,⟨1,(kI 3 8)⟩⟩]),oP yL (.nP [(.int 7 0),(.int 7 0),(.int 7 0),(.int 7 0),(.int 3 0),(.int 3 0),.aD]),oP none (.jF 7 lT Lv)] af1)
def afZ:au:=(sR [oM Mf iZ,oC Mg 26 [Lt],oM yK Hd] af0)
def afY:au:=(.seq (sR [oM wH (kI 3 0)] (.block 0 (.loop afR))) afZ)
def afX:au:=(.seq (sR [oM yU iZ,oP Br (.eqv 1 false yC (.c .pj))] (.cond uM (sR [oP jB (.gJ (.c (.bool false)))] .ret) .skip)) afY)
def afW:au:=(sR [oC yT 18 [(kI 3 8)],oM uQ yB] afX)
def afV:au:=(sR [oC yQ 16 [(kI 3 8)],oM yP yx,oX yR vU 0,oX yS vU 1,oM tf yz,oM ou yA] afW)
def afU:au:=(.seq (sR [oC yN 14 [],oP yO (.uT sU)] (.cond vT (sR [oP jB (.gJ (.c (.bool false)))] .ret) .skip)) afV)
def c4:au:=(sR [oP jK (.box lD),oP jB (.gJ (.c (.bool false)))] afU)
def C5:=oo (cd 5) (by conv=>lhs;reduce)
def DE:=oo (lb 0 C5) (by conv=>lhs;reduce)
def af8:au:=.ret
def af7:=oA (sp 8 C5) (by conv=>lhs;reduce) af8
def adj:=oB (λa x=>rp 7 [a] C5 x) (by conv=>lhs;reduce) DE af7
def adi:=oA (sp 6 C5) (by conv=>lhs;reduce) adj
def adh:=oA (sp 5 C5) (by conv=>lhs;reduce) adi
def adg:=oA (sp 4 C5) (by conv=>lhs;reduce) adh
def adf:=oA (sp 3 C5) (by conv=>lhs;reduce) adg
def ade:=oA (sp 2 C5) (by conv=>lhs;reduce) adf
def adb:=oA (sp 1 C5) (by conv=>lhs;reduce) ade
def c5:=oA (sp 0 C5) (by conv=>lhs;reduce) adb
def C6:=oo (cd 6) (by conv=>lhs;reduce)
def agb:=oo (lb 0 C6) (by conv=>lhs;reduce)
def agc:=oo (lb 1 C6) (by conv=>lhs;reduce)
def adu:au:=.ret
def adt:=oA (sp 19 C6) (by conv=>lhs;reduce) adu
def ads:=oA (sp 18 C6) (by conv=>lhs;reduce) adt
def adr:=oA (sp 17 C6) (by conv=>lhs;reduce) ads
def adq:=oA (sp 16 C6) (by conv=>lhs;reduce) adr
def adp:=oA (sp 15 C6) (by conv=>lhs;reduce) adq
def ado:=oA (sp 14 C6) (by conv=>lhs;reduce) adp
def adn:=oA (sp 13 C6) (by conv=>lhs;reduce) ado
def adm:=oA (sp 12 C6) (by conv=>lhs;reduce) adn
def adl:=oA (sp 11 C6) (by conv=>lhs;reduce) adm
def adk:=oA (sp 10 C6) (by conv=>lhs;reduce) adl
def agm:=oA (sp 9 C6) (by conv=>lhs;reduce) adk
def agl:=oB (λa x=>rp 8 [a] C6 x) (by conv=>lhs;reduce) agc agm
def agk:=oA (sp 7 C6) (by conv=>lhs;reduce) agl
def agj:=oB (λa x=>rp 6 [a] C6 x) (by conv=>lhs;reduce) agb agk
def agi:=oA (sp 5 C6) (by conv=>lhs;reduce) agj
def agh:=oA (sp 4 C6) (by conv=>lhs;reduce) agi
def agf:=oA (sp 3 C6) (by conv=>lhs;reduce) agh
def age:=oA (sp 2 C6) (by conv=>lhs;reduce) agf
def agd:=oA (sp 1 C6) (by conv=>lhs;reduce) age
def c6:=oA (sp 0 C6) (by conv=>lhs;reduce) agd
def C8:=oo (cd 8) (by conv=>lhs;reduce)
def adB:au:=.ret
def adA:=oA (sp 5 C8) (by conv=>lhs;reduce) adB
def adz:=oA (sp 4 C8) (by conv=>lhs;reduce) adA
def ady:=oA (sp 3 C8) (by conv=>lhs;reduce) adz
def adx:=oA (sp 2 C8) (by conv=>lhs;reduce) ady
def adw:=oA (sp 1 C8) (by conv=>lhs;reduce) adx
def c8:=oA (sp 0 C8) (by conv=>lhs;reduce) adw
def c9:=oo (cd 9) (by conv=>lhs;reduce)
def Xp:=oo (cd 10) (by conv=>lhs;reduce)
def Pu:au:=.ret
def Pt:=oA (sp 7 Xp) (by conv=>lhs;reduce) Pu
def Ps:=oA (sp 6 Xp) (by conv=>lhs;reduce) Pt
def Pr:=oA (sp 5 Xp) (by conv=>lhs;reduce) Ps
def Pq:=oA (sp 4 Xp) (by conv=>lhs;reduce) Pr
def Pp:=oA (sp 3 Xp) (by conv=>lhs;reduce) Pq
def tZ:=oA (sp 2 Xp) (by conv=>lhs;reduce) Pp
def tY:=oA (sp 1 Xp) (by conv=>lhs;reduce) tZ
def Xu:=oA (sp 0 Xp) (by conv=>lhs;reduce) tY
def Xq:=oo (cd 11) (by conv=>lhs;reduce)
def XE:au:=.ret
def XD:=oA (sp 7 Xq) (by conv=>lhs;reduce) XE
def XC:=oA (sp 6 Xq) (by conv=>lhs;reduce) XD
def XB:=oA (sp 5 Xq) (by conv=>lhs;reduce) XC
def XA:=oA (sp 4 Xq) (by conv=>lhs;reduce) XB
def Xz:=oA (sp 3 Xq) (by conv=>lhs;reduce) XA
def Xy:=oA (sp 2 Xq) (by conv=>lhs;reduce) Xz
def Xx:=oA (sp 1 Xq) (by conv=>lhs;reduce) Xy
def c11:=oA (sp 0 Xq) (by conv=>lhs;reduce) Xx
def zE:au:=(.seq (sR [oM d161 sU,oM d162 qg,oP d163 (.ft a162),oP d164 (CN aci acj)] (.cond a164 .skip (.exit 2))) (.seq (.block 3 (.seq (.th [oM d167 qg,oM d170 sU,oP d171 (.yZ 2 a167 acn),⟨0,d172,none,1,(.cI 2 a171)⟩,oM d173 vR,oM d174 sU,oP d175 (.yZ 2 a173 acp),⟨0,d176,none,1,(.cI 2 a175)⟩,oP d177 (.jb [1,2] true aco acq)]) (.cond acr (sR [oP jK (.gJ (.c (.bool false)))] .ret) .skip))) (.qX [oM d165 sU,oP d166 (GK ack (kI 3 1)),oM yN acm])))
def rO:au:=(.seq (sR [oM Ma kf,oM Mb jz,oP Mc (.ft Lq),oP Md (CN Lp Lr)] (.cond Ls .skip (.exit 0))) (.seq (.block 1 (sR [oM Mh ik,oM Mj jz,oM Mk kf,oP Mm (.yZ 2 Lv Lw),oP Mn (.cI 2 Lx),oC Mo 62 [Lu,Ly],oM Mg Lz,oX Mp Hd 0,oX Mq Hd 1,oM wH LD,oM yK LF] (sR [oM Mt lD,oM Mu iZ,oM HP kf,oP Mv (.yZ 2 LG C7),oP Mw (.cI 2 LH),oC Mx 96 [Hf,LJ],oM Mr LK,oX d100 He 0,oX d101 He 1,oM yL LL,oM wI LM] (sR [oM d103 ik,oM d104 kf,oC d105 98 [LN,ON],oM d102 a105,oX d106 Hg 0,oX d107 Hg 1,oM wJ OO,oM uR a107] (sR [oM d111 lD,oM d112 kf,oC d113 100 [OP,OQ],oM d110 OS,oX d114 LO 0,oX d115 LO 1,oM Bq OT,oM yM OU] (.seq (.seq (.th [oM d116 jz,oM d117 kf,oP d120 (.yZ 2 a116 a117),⟨0,d121,none,1,(.cI 2 OV)⟩,oM d122 iZ,oM d123 kf,oP d124 (.yZ 2 OX OY),⟨0,d125,none,1,(.cI 2 a124)⟩,oP d126 (.jb [1,1] true OW Uo),oM d127 Up,⟨0,d130,(gF .i1 .i2 .i7),0,(.gJ sS)⟩,⟨0,d131,(gF .i1 .i2 .i7),0,(.gJ nU)⟩,⟨0,d132,(gF .i1 .i2 .i7),0,(Fj a130 a131)⟩,oP d133 (.pick a127 (.c (.bool true)) ZK),oM d134 ZL,⟨0,d135,(gF .i1 .i3 .i4),0,(.gJ nM)⟩,⟨0,d136,(gF .i1 .i3 .i4),0,(.gJ lT)⟩,⟨0,d137,(gF .i1 .i3 .i4),0,(.call 90 [ZN,ab8])⟩,⟨0,d140,(gF .i1 .i3 .i4),0,(.uT ab9)⟩,oP d141 (.pick ZM (.c (.bool true)) ZO),oM d142 a141,⟨0,d143,(gF .i1 .i4 .i2),0,(.gJ lU)⟩,⟨0,d144,(gF .i1 .i4 .i2),0,(Fj a143 (kI 3 0))⟩,oP d145 (.pick aca (.c (.bool true)) acb),oM d146 a145,⟨0,d147,(gF .i1 .i4 .i6),0,(.gJ uL)⟩,⟨0,d150,(gF .i1 .i4 .i6),0,(Fj acd (kI 3 0))⟩,oP d151 (.pick a146 (.c (.bool true)) ace),oM d152 acf,⟨0,d153,(gF .i1 .i5 .i2),0,(.gJ qg)⟩,⟨0,d154,(gF .i1 .i5 .i2),1,(.ft acg)⟩,⟨0,d155,(gF .i1 .i5 .i2),0,(.gJ vR)⟩,⟨0,d156,(gF .i1 .i5 .i2),1,(.ft ach)⟩,⟨0,d157,(gF .i1 .i5 .i2),0,(Fj a154 a156)⟩,oP d160 (.pick a152 (.c (.bool true)) a157)]) (.cond a160 (sR [oP jK (.gJ (.c (.bool false)))] .ret) .skip)) (sR [oM yN (kI 3 0)] (.block 2 (.loop zE))))))))) (.qX [oM Me kf,oP Mf (GK OM (kI 3 1)),oM uQ Lt])))
def XG:au:=.ret
def XF:au:=(sR [oP jK (.gJ (.c (.bool true)))] XG)
def Pv:au:=(.seq (sR [oM uQ (kI 3 0)] (.block 0 (.loop rO))) XF)
def JZ:au:=(.seq (sR [oM L5 jz,oP L6 (.ft Lk),oM L7 iZ,oP L8 (.ft Lm),oP L9 (Fj Ll Ln)] (.cond Lo (sR [oP jK (.gJ (.c (.bool false)))] .ret) .skip)) Pv)
def JY:au:=(sR [oM HM ik,oC HN 26 [CZ],oM D6 lD,oC L4 94 [yE],oM tf Hc,oM ou Lj] JZ)
def Dm:au:=(.seq (sR [oM yT rF,oP yU (Fj yB (kI 3 0)),oM Br yC,⟨0,Bs,(gF .i0 .i3 .i2),0,(.gJ lS)⟩,⟨0,Bt,(gF .i0 .i3 .i2),0,(.gJ lD)⟩,⟨0,DX,(gF .i0 .i3 .i2),0,(.call 92 [vV])⟩,⟨0,DY,(gF .i0 .i3 .i2),0,(.call 90 [yD,CV])⟩,⟨0,DZ,(gF .i0 .i3 .i2),0,(.uT CW)⟩,oP D0 (.pick uM (.c (.bool true)) CX)] (.cond CY (sR [oP jK (.gJ (.c (.bool false)))] .ret) .skip)) JY)
def Dl:au:=(sR [oM yP ik,oC yQ 46 [vU],oM yO yx,oX yR vT 0,oX yS vT 1,oM oq yz,oM jB yA] Dm)
def c12:au:=(sR [oP jK (.gJ (.c (.bool false)))] Dl)
def C13:=oo (cd 13) (by conv=>lhs;reduce)
def Dp:=oo (lb 0 C13) (by conv=>lhs;reduce)
def c13:=oA (λa=>lm [a] C13) (by conv=>lhs;reduce) Dp
def c14:=oo (cd 14) (by conv=>lhs;reduce)
def C15:=oo (cd 15) (by conv=>lhs;reduce)
def J0:=oo (lb 0 C15) (by conv=>lhs;reduce)
def c15:=oA (λa=>lm [a] C15) (by conv=>lhs;reduce) J0
def Dq:au:=(sR [oP d110 (CN a107 OO)] (.seq (.cond LO .skip (.exit 0)) (.seq (.block 1 (sR [oM d111 a107,oP d112 (.yZ 2 a105 a107),oP d113 (.cI 2 OQ),oP uR (.nP [(.int 3 0),(.str 0 0)]),oM wJ OP,oP none (.jF 2 lU OS)] (.th [⟨0,d114,none,1,(.cQ lT)⟩,oF d115 0 lU,⟨0,d116,none,1,(.cQ OU)⟩,oM d117 kf,oM d120 qg,oP d121 (.yZ 1 a117 OV),⟨0,d122,none,1,(.cQ OW)⟩,oP d123 (.yZ 1 OT a116),oP none (.ek OY OX)]))) (.qX [oP d124 (GK a107 (kI 3 1)),oM d107 a124]))))
def Py:au:=.ret
def XL:au:=(sR [oM d125 ik,oM d126 nM,oP d127 (.mkF 116 [eC,lT]),oP d130 (.jA false 2 [.qU,.qU] [⟨0,⟨1,(.c (.func 114 []))⟩⟩,⟨1,⟨1,a127⟩⟩]),oC d131 112 [Uo,Up,a130],oM jB a131] Py)
def XK:au:=(.seq (sR [oM d105 sN,oP d106 (.ft a105),oM d107 (kI 3 0)] (.block 0 (.loop Dq))) XL)
def PB:au:=(sR [oL d103 lT,oC d104 110 [LN],oP none (.ek lT ON)] XK)
def zF:au:=(.seq (sR [oM L9 ik,oN Ma Lo,oF Mb 0 Lp,oF Mc 2 Lq,oP Md (.cI 7 Lr),oP wI (.nP [(.int 7 0),(.int 7 0),(.int 7 0),(.int 7 0),(.int 3 0),(.int 3 0),.aD]),oP none (.jF 7 nU Ls)] (sR [oF Me 0 nU,oP Mf (.cI 2 OM),oF Mg 0 eC,oP Mh (.cI 2 Hd),oP Mj (.jb [1,1] false Lt Lu),oM Mk Lv,⟨0,Mm,(gT .i0 .i6 .i3),0,(.gI 2 nU)⟩,⟨0,Mn,(gT .i0 .i6 .i3),0,(.cI 2 Lx)⟩,⟨0,Mo,(gT .i0 .i6 .i3),0,(.gI 2 eC)⟩,⟨0,Mp,(gT .i0 .i6 .i3),0,(.cI 2 Lz)⟩,⟨0,Mq,(gT .i0 .i6 .i3),0,(.jb [1,1] false Ly LD)⟩,oP Mr (.pick Lw LF (.c (.bool false))),oM Mt He,⟨0,Mu,(gT .i0 .i7 .i2),0,(.gI 5 nU)⟩,⟨0,HP,(gT .i0 .i7 .i2),0,(.cQ LG)⟩,⟨0,Mv,(gT .i0 .i7 .i2),0,(.gI 5 eC)⟩,⟨0,Mw,(gT .i0 .i7 .i2),0,(.cQ LH)⟩,⟨0,Mx,(gT .i0 .i7 .i2),0,(UT C7 LJ)⟩,oP d100 (.pick Hf LK (.c (.bool false)))] (.cond LL (.qX [oF d101 6 nU,oL d102 LM,oP none (.ek lT Hg)]) .skip))) PB)
def XJ:au:=(sR [oM L6 ik,oC L7 108 [Ll],oP L8 (.MQ 2 Lm),oP yL (.nP [.aD]),oP none (.ek lT Ln)] zF)
def PA:au:=(.seq (sR [oM D6 sS,oP L4 (Fj yE (kI 3 0))] (.cond Lj (sR [oM L5 sS,oM jB Lk] .ret) .skip)) XJ)
def Pz:au:=(sR [oM DX ik,oM DY sN,oC DZ 106 [CV,CW],oM Bt CX,oX D0 vV 0,oX HM vV 1,oX HN vV 2,oM uQ CY,oM wH CZ,oM yK Hc] PA)
def J2:au:=(.seq (sR [oM yQ ik,oP yR (.cI 7 eC),oM yS sN,oC yT 104 [yx,yz,yA],oM ou yB] (sR [oM yU iZ,oP Br (Fj yC (kI 3 0))] (.cond uM (sR [oM Bs iZ,oM jB yD] .ret) .skip))) Pz)
def J1:au:=(.seq (sR [oM Bq ik,oC yM 102 [vR],oM tf uL] (sR [oM yN jz,oP yO (Fj sU (kI 3 0))] (.cond vT (sR [oM yP jz,oM jB vU] .ret) .skip))) J2)
def c16:au:=(sR [oP jK (.box lD),oM jB (kI 3 0)] J1)
def Xr:=oo (cd 18) (by conv=>lhs;reduce)
def Dr:=oo (lb 0 Xr) (by conv=>lhs;reduce)
def XR:au:=.ret
def XQ:=oA (sp 6 Xr) (by conv=>lhs;reduce) XR
def XP:=oA (sp 5 Xr) (by conv=>lhs;reduce) XQ
def XO:=oA (sp 4 Xr) (by conv=>lhs;reduce) XP
def XN:=oB (λa x=>rp 3 [a] Xr x) (by conv=>lhs;reduce) Dr XO
def XM:=oA (sp 2 Xr) (by conv=>lhs;reduce) XN
def PC:=oA (sp 1 Xr) (by conv=>lhs;reduce) XM
def c18:=oA (sp 0 Xr) (by conv=>lhs;reduce) PC
def c19:=oo (cd 19) (by conv=>lhs;reduce)
def Uk:=oo (cd 20) (by conv=>lhs;reduce)
def Ds:=oo (lb 0 Uk) (by conv=>lhs;reduce)
def XZ:au:=.ret
def XY:=oA (sp 7 Uk) (by conv=>lhs;reduce) XZ
def XX:=oB (λa x=>rp 6 [a] Uk x) (by conv=>lhs;reduce) Ds XY
def XW:=oA (sp 5 Uk) (by conv=>lhs;reduce) XX
def XV:=oA (sp 4 Uk) (by conv=>lhs;reduce) XW
def XU:=oA (sp 3 Uk) (by conv=>lhs;reduce) XV
def XT:=oA (sp 2 Uk) (by conv=>lhs;reduce) XU
def XS:=oA (sp 1 Uk) (by conv=>lhs;reduce) XT
def c20:=oA (sp 0 Uk) (by conv=>lhs;reduce) XS
def c21:=oo (cd 21) (by conv=>lhs;reduce)
def c23:=oo (cd 23) (by conv=>lhs;reduce)
def c24:=oo (cd 24) (by conv=>lhs;reduce)
def c26:=oo (cd 26) (by conv=>lhs;reduce)
def C47:=oo (cd 47) (by conv=>lhs;reduce)
def J4:=oo (lb 0 C47) (by conv=>lhs;reduce)
def c47:=oA (λa=>lm [a] C47) (by conv=>lhs;reduce) J4
def c28:=oo (cd 28) (by conv=>lhs;reduce)
def c30:=oo (cd 30) (by conv=>lhs;reduce)
def c31:=oo (cd 31) (by conv=>lhs;reduce)
def C32:=oo (cd 32) (by conv=>lhs;reduce)
def X0:=oo (lb 0 C32) (by conv=>lhs;reduce)
def c32:=oA (λa=>lm [a] C32) (by conv=>lhs;reduce) X0
def c33:=oo (cd 33) (by conv=>lhs;reduce)
def C34:=oo (cd 34) (by conv=>lhs;reduce)
def Dt:=oo (lb 0 C34) (by conv=>lhs;reduce)
def c34:=oA (λa=>lm [a] C34) (by conv=>lhs;reduce) Dt
def c35:=oo (cd 35) (by conv=>lhs;reduce)
def c36:=oo (cd 36) (by conv=>lhs;reduce)
def c37:=oo (cd 37) (by conv=>lhs;reduce)
def c38:=oo (cd 38) (by conv=>lhs;reduce)
def c39:=oo (cd 39) (by conv=>lhs;reduce)
def C40:=oo (cd 40) (by conv=>lhs;reduce)
def Dv:=oo (lb 0 C40) (by conv=>lhs;reduce)
def c40:=oA (λa=>lm [a] C40) (by conv=>lhs;reduce) Dv
def C41:=oo (cd 41) (by conv=>lhs;reduce)
def J3:=oo (lb 0 C41) (by conv=>lhs;reduce)
def ac4:au:=.ret
def ac3:=oA (sp 3 C41) (by conv=>lhs;reduce) ac4
def X2:au:=(.seq (.block 0 (.loop J3)) ac3)
def X1:=oA (sp 1 C41) (by conv=>lhs;reduce) X2
def c41:=oA (sp 0 C41) (by conv=>lhs;reduce) X1
def Ot:=oo (cd 42) (by conv=>lhs;reduce)
def Hz:au:=.ret
def Hv:=oA (sp 11 Ot) (by conv=>lhs;reduce) Hz
def Ht:=oA (sp 10 Ot) (by conv=>lhs;reduce) Hv
def PM:=oA (sp 9 Ot) (by conv=>lhs;reduce) Ht
def PL:=oA (sp 8 Ot) (by conv=>lhs;reduce) PM
def PK:=oA (sp 7 Ot) (by conv=>lhs;reduce) PL
def PJ:=oA (sp 6 Ot) (by conv=>lhs;reduce) PK
def PI:=oA (sp 5 Ot) (by conv=>lhs;reduce) PJ
def PH:=oA (sp 4 Ot) (by conv=>lhs;reduce) PI
def PG:=oA (sp 3 Ot) (by conv=>lhs;reduce) PH
def PF:=oA (sp 2 Ot) (by conv=>lhs;reduce) PG
def PE:=oA (sp 1 Ot) (by conv=>lhs;reduce) PF
def c42:=oA (sp 0 Ot) (by conv=>lhs;reduce) PE
def C43:=oo (cd 43) (by conv=>lhs;reduce)
def ua:=oo (lb 0 C43) (by conv=>lhs;reduce)
def c43:=oA (λa=>lm [a] C43) (by conv=>lhs;reduce) ua
def c44:=oo (cd 44) (by conv=>lhs;reduce)
def C45:=oo (cd 45) (by conv=>lhs;reduce)
def Dw:=oo (lb 0 C45) (by conv=>lhs;reduce)
def c45:=oA (λa=>lm [a] C45) (by conv=>lhs;reduce) Dw
def c46:=oo (cd 46) (by conv=>lhs;reduce)
def UK:=oo (cd 48) (by conv=>lhs;reduce)
def Lf:=oo (cd 49) (by conv=>lhs;reduce)
def zG:=oo (lb 0 Lf) (by conv=>lhs;reduce)
def PT:au:=.ret
def PS:=oA (sp 11 Lf) (by conv=>lhs;reduce) PT
def PO:=oB (λa x=>rp 10 [a] Lf x) (by conv=>lhs;reduce) zG PS
def X7:=oA (sp 9 Lf) (by conv=>lhs;reduce) PO
def X6:=oA (sp 8 Lf) (by conv=>lhs;reduce) X7
def X5:=oA (sp 7 Lf) (by conv=>lhs;reduce) X6
def X4:=oA (sp 6 Lf) (by conv=>lhs;reduce) X5
def PV:=oA (sp 5 Lf) (by conv=>lhs;reduce) X4
def J5:=oA (sp 4 Lf) (by conv=>lhs;reduce) PV
def X3:=oA (sp 3 Lf) (by conv=>lhs;reduce) J5
def PU:=oA (sp 2 Lf) (by conv=>lhs;reduce) X3
def PN:=oA (sp 1 Lf) (by conv=>lhs;reduce) PU
def c49:=oA (sp 0 Lf) (by conv=>lhs;reduce) PN
def Ul:=oo (cd 50) (by conv=>lhs;reduce)
def zH:=oo (lb 0 Ul) (by conv=>lhs;reduce)
def PZ:au:=.ret
def PY:=oA (sp 7 Ul) (by conv=>lhs;reduce) PZ
def PX:=oB (λa x=>rp 6 [a] Ul x) (by conv=>lhs;reduce) zH PY
def J9:=oA (sp 5 Ul) (by conv=>lhs;reduce) PX
def J8:=oA (sp 4 Ul) (by conv=>lhs;reduce) J9
def PW:=oA (sp 3 Ul) (by conv=>lhs;reduce) J8
def J7:=oA (sp 2 Ul) (by conv=>lhs;reduce) PW
def J6:=oA (sp 1 Ul) (by conv=>lhs;reduce) J7
def c50:=oA (sp 0 Ul) (by conv=>lhs;reduce) J6
def c51:=oo (cd 51) (by conv=>lhs;reduce)
def Dx:au:=(sR [oP Mv (CN C7 LG)] (.seq (.cond LH .skip (.exit 0)) (.seq (.block 1 (sR [oP Mw (.yZ 2 Hf C7),oP Mx (.cI 2 LJ),oP wH (.nP [(.int 3 0),(.str 0 0)]),oP none (.jF 2 nM LK)] (.seq (sR [oM d100 ik,oF d101 0 nM,oL d102 LM,oF d103 1 nM,oL d104 LN,oC d105 136 [LL,Hg,ON],oP d106 (.uT a105),oM d107 OO,⟨0,d110,(gF .i1 .i0 .i7),0,(.gI 0 nM)⟩,⟨0,d111,(gF .i1 .i0 .i7),0,(.cQ LO)⟩,⟨0,d112,(gF .i1 .i0 .i7),0,(.gJ iZ)⟩,⟨0,d113,(gF .i1 .i0 .i7),0,(.cmp 3 (.le 9223372036854775808 18446744073709551616) OP OQ)⟩,oP d114 (.pick a107 (.c (.bool true)) OS)] (.cond OT (sR [oM jB (kI 3 2)] .ret) .skip)) (.qX [oF d115 0 nM,oL d116 OU,oM ou a116])))) (.qX [oP d117 (GK C7 (kI 3 1)),oM HP a117]))))
def zK:au:=.ret
def zJ:au:=(sR [oM jB (kI 3 0)] zK)
def zI:au:=(.seq (sR [oF d120 4 eC,oL d121 OV,oF d122 5 eC,oL d123 OX,oP d124 (UT OW OY),oM d125 a124,⟨0,d126,(gT .i1 .i2 .i5),0,(.gJ ik)⟩,⟨0,d127,(gT .i1 .i2 .i5),0,(.Fm Up)⟩,⟨0,d130,(gT .i1 .i2 .i5),0,(.gI 0 a127)⟩,⟨0,d131,(gT .i1 .i2 .i5),0,(.gI 1 a130)⟩,⟨0,d132,(gT .i1 .i2 .i5),0,(.cQ a131)⟩,⟨0,d133,(gT .i1 .i2 .i5),0,(.ft ZK)⟩,⟨0,d134,(gT .i1 .i2 .i5),0,(.cmp 3 (.ge 9223372036854775808 18446744073709551616) ZL (kI 3 20))⟩,oP d135 (.pick Uo ZM (.c (.bool false)))] (.cond ZN (sR [oM jB (kI 3 3)] .ret) .skip)) zJ)
def Q2:au:=(.seq (sR [oM Mt sN,oP Mu (.ft Hf),oM HP (kI 3 0)] (.block 0 (.loop Dx))) zI)
def Q0:au:=(sR [oM ou (kI 3 18446744073709551615)] Q2)
def P6:au:=(.seq (.seq (.th [oF wJ 0 eC,⟨0,uR,none,1,(.cI 2 qg)⟩,⟨0,Bq,none,1,(.cI 2 jz)⟩,oP yM (.jb [1,1] true lU vR),oM yN uL,⟨0,yO,(gF .i0 .i2 .i2),0,(.gI 2 eC)⟩,⟨0,yP,(gF .i0 .i2 .i2),1,(.cI 2 vT)⟩,⟨0,yQ,(gF .i0 .i2 .i2),1,(.cI 2 jz)⟩,⟨0,yR,(gF .i0 .i2 .i2),0,(.call 150 [vU,yx])⟩,⟨0,yS,(gF .i0 .i2 .i2),0,(.uT yz)⟩,oP yT (.pick sU (.c (.bool true)) yA),oM yU yB,⟨0,Br,(gF .i0 .i3 .i1),0,(.gI 5 eC)⟩,⟨0,Bs,(gF .i0 .i3 .i1),0,(.cQ uM)⟩,⟨0,Bt,(gF .i0 .i3 .i1),0,(CN yD (kI 3 0))⟩,oP DX (.pick yC (.c (.bool true)) vV),oM DY CV,⟨0,DZ,(gF .i0 .i3 .i6),0,(.gI 5 eC)⟩,⟨0,D0,(gF .i0 .i3 .i6),1,(.cQ CX)⟩,⟨0,HM,(gF .i0 .i3 .i6),0,(.gJ ik)⟩,⟨0,HN,(gF .i0 .i3 .i6),1,(.call 56 [CZ])⟩,⟨0,D6,(gF .i0 .i3 .i6),0,(gt3 CY Hc)⟩,oP L4 (.pick CW (.c (.bool true)) yE),oM L5 Lj,⟨0,L6,(gF .i0 .i4 .i5),0,(.gI 4 eC)⟩,⟨0,L7,(gF .i0 .i4 .i5),0,(.cQ Ll)⟩,⟨0,L8,(gF .i0 .i4 .i5),0,(CN Lm (kI 3 0))⟩,oP L9 (.pick Lk (.c (.bool true)) Ln),oM Ma Lo,⟨0,Mb,(gF .i0 .i5 .i2),0,(.gI 4 eC)⟩,⟨0,Mc,(gF .i0 .i5 .i2),1,(.cQ Lq)⟩,⟨0,Md,(gF .i0 .i5 .i2),0,(.gI 5 eC)⟩,⟨0,Me,(gF .i0 .i5 .i2),1,(.cQ Ls)⟩,⟨0,Mf,(gF .i0 .i5 .i2),0,(gt3 Lr OM)⟩,oP Mg (.pick Lp (.c (.bool true)) Lt),oM Mh Hd,⟨0,Mj,(gF .i0 .i6 .i1),0,(.gI 4 eC)⟩,⟨0,Mk,(gF .i0 .i6 .i1),1,(.cQ Lv)⟩,⟨0,Mm,(gF .i0 .i6 .i1),0,(UT Lw (kI 3 0))⟩,⟨0,Mn,(gF .i0 .i6 .i1),0,(.gI 5 eC)⟩,⟨0,Mo,(gF .i0 .i6 .i1),1,(.cQ Ly)⟩,⟨0,Mp,(gF .i0 .i6 .i1),0,(UT Lz (kI 3 0))⟩,⟨0,Mq,(gF .i0 .i6 .i1),0,(.eqv 0 true Lx LD)⟩,oP Mr (.pick Lu (.c (.bool true)) LF)]) (.cond He (sR [oM jB (kI 3 2)] .ret) .skip)) Q0)
def X8:au:=(sR [oM yK ik,oC yL 108 [sS],oP wI (.MR 0 2 lT),oP tf (.nP [(.int 7 0),(.int 7 0)]),oP none (.jF 2 jz nU)] P6)
def c52:au:=(sR [oP jK (.box lD),oM jB (kI 3 0)] X8)
def GU:=oo (cd 53) (by conv=>lhs;reduce)
def Dy:=oo (lb 0 GU) (by conv=>lhs;reduce)
def zN:=oo (lb 1 GU) (by conv=>lhs;reduce)
def zO:=oo (lb 2 GU) (by conv=>lhs;reduce)
def Q6:au:=.ret
def Q5:=oA (sp 11 GU) (by conv=>lhs;reduce) Q6
def Q4:=oB (λa x=>rp 10 [a] GU x) (by conv=>lhs;reduce) zO Q5
def Re:=oA (sp 9 GU) (by conv=>lhs;reduce) Q4
def Rd:=oA (sp 8 GU) (by conv=>lhs;reduce) Re
def Rc:=oB (λa x=>rp 7 [a] GU x) (by conv=>lhs;reduce) zN Rd
def Rb:=oA (sp 6 GU) (by conv=>lhs;reduce) Rc
def Ra:=oA (sp 5 GU) (by conv=>lhs;reduce) Rb
def Q9:=oA (sp 4 GU) (by conv=>lhs;reduce) Ra
def Q8:=oA (sp 3 GU) (by conv=>lhs;reduce) Q9
def Q7:=oB (λa x=>rp 2 [a] GU x) (by conv=>lhs;reduce) Dy Q8
def Q3:=oA (sp 1 GU) (by conv=>lhs;reduce) Q7
def c53:=oA (sp 0 GU) (by conv=>lhs;reduce) Q3
def c54:=oo (cd 54) (by conv=>lhs;reduce)
def c55:=oo (cd 55) (by conv=>lhs;reduce)
def Ou:=oo (cd 56) (by conv=>lhs;reduce)
def Ka:=oo (lb 0 Ou) (by conv=>lhs;reduce)
def Dz:=oo (lb 1 Ou) (by conv=>lhs;reduce)
def Bf:au:=.ret
def Kg:=oA (sp 9 Ou) (by conv=>lhs;reduce) Bf
def Kf:=oA (sp 8 Ou) (by conv=>lhs;reduce) Kg
def Ke:=oA (sp 7 Ou) (by conv=>lhs;reduce) Kf
def Kc:=oB (λa x=>rp 6 [a] Ou x) (by conv=>lhs;reduce) Dz Ke
def Kb:=oA (sp 5 Ou) (by conv=>lhs;reduce) Kc
def DD:=oA (sp 4 Ou) (by conv=>lhs;reduce) Kb
def DC:=oA (sp 3 Ou) (by conv=>lhs;reduce) DD
def DB:=oB (λa x=>rp 2 [a] Ou x) (by conv=>lhs;reduce) Ka DC
def DA:=oA (sp 1 Ou) (by conv=>lhs;reduce) DB
def c56:=oA (sp 0 Ou) (by conv=>lhs;reduce) DA
def c57:=oo (cd 57) (by conv=>lhs;reduce)
def c58:=oo (cd 58) (by conv=>lhs;reduce)
def c59:=oo (cd 59) (by conv=>lhs;reduce)
def c60:=oo (cd 60) (by conv=>lhs;reduce)
def c61:=oo (cd 61) (by conv=>lhs;reduce)
def c62:=oo (cd 62) (by conv=>lhs;reduce)
def c63:=oo (cd 63) (by conv=>lhs;reduce)
def C64:=oo (cd 64) (by conv=>lhs;reduce)
def DF:=oo (lb 0 C64) (by conv=>lhs;reduce)
def X9:=oA (λa=>lm [a] C64) (by conv=>lhs;reduce) DF
def c65:=oo (cd 65) (by conv=>lhs;reduce)
def c66:=oo (cd 66) (by conv=>lhs;reduce)
def C67:=oo (cd 67) (by conv=>lhs;reduce)
def zP:=oo (lb 0 C67) (by conv=>lhs;reduce)
def c67:=oA (λa=>lm [a] C67) (by conv=>lhs;reduce) zP
def c68:=oo (cd 68) (by conv=>lhs;reduce)
def c69:=oo (cd 69) (by conv=>lhs;reduce)
def c70:=oo (cd 70) (by conv=>lhs;reduce)
def c71:=oo (cd 71) (by conv=>lhs;reduce)
def c75:=oo (cd 75) (by conv=>lhs;reduce)
def c76:=oo (cd 76) (by conv=>lhs;reduce)
def c77:=oo (cd 77) (by conv=>lhs;reduce)
def c78:=oo (cd 78) (by conv=>lhs;reduce)
def c79:=oo (cd 79) (by conv=>lhs;reduce)
def c80:=oo (cd 80) (by conv=>lhs;reduce)
def c81:=oo (cd 81) (by conv=>lhs;reduce)
def c82:=oo (cd 82) (by conv=>lhs;reduce)
def c83:=oo (cd 83) (by conv=>lhs;reduce)
def c84:=oo (cd 84) (by conv=>lhs;reduce)
def C86:=oo (cd 86) (by conv=>lhs;reduce)
def DG:=oo (lb 0 C86) (by conv=>lhs;reduce)
def c86:=oA (λa=>lm [a] C86) (by conv=>lhs;reduce) DG
def C87:=oo (cd 87) (by conv=>lhs;reduce)
def qp:=oo (lb 0 C87) (by conv=>lhs;reduce)
def c87:=oA (λa=>lm [a] C87) (by conv=>lhs;reduce) qp
def C88:=oo (cd 88) (by conv=>lhs;reduce)
def DH:=oo (lb 0 C88) (by conv=>lhs;reduce)
def c88:=oA (λa=>lm [a] C88) (by conv=>lhs;reduce) DH
def c89:=oo (cd 89) (by conv=>lhs;reduce)
def c90:=oo (cd 90) (by conv=>lhs;reduce)
def c91:=oo (cd 91) (by conv=>lhs;reduce)
def C92:=oo (cd 92) (by conv=>lhs;reduce)
def Kh:=oo (lb 0 C92) (by conv=>lhs;reduce)
def c92:=oA (λa=>lm [a] C92) (by conv=>lhs;reduce) Kh
def c93:=oo (cd 93) (by conv=>lhs;reduce)
def c94:=oo (cd 94) (by conv=>lhs;reduce)
def C95:=oo (cd 95) (by conv=>lhs;reduce)
def Ki:=oo (lb 0 C95) (by conv=>lhs;reduce)
def c95:=oA (λa=>lm [a] C95) (by conv=>lhs;reduce) Ki
def C96:=oo (cd 96) (by conv=>lhs;reduce)
def Kj:=oo (lb 0 C96) (by conv=>lhs;reduce)
def c96:=oA (λa=>lm [a] C96) (by conv=>lhs;reduce) Kj
def c97:=oo (cd 97) (by conv=>lhs;reduce)
def DI:au:=(sR [oP L4 (CN yE Hc)] (.seq (.cond Lj .skip (.exit 0)) (.seq (.block 1 (sR [oP L5 (.yZ 4 CZ yE),oP L6 (.cI 4 Lk),oP tf (.nP [(.int 7 0),(.int 7 0),.aD,(.bool false)]),oP none (.jF 4 jz Ll)] (.th [oM L7 lS,oF L8 0 jz,⟨0,L9,none,1,(.cI 2 Ln)⟩,⟨0,Ma,none,1,(.call 262 [Lm,Lo])⟩,oF Mb 3 jz,⟨0,Mc,none,1,(.cQ Lq)⟩,⟨0,Md,none,1,(.call 264 [Lr])⟩,⟨0,Me,none,1,(.jA false 1 [(.int 3 0)] [⟨0,⟨1,Ls⟩⟩])⟩,⟨0,Mf,none,1,(.call 260 [Lp,OM])⟩,oF Mg 2 jz,⟨0,Mh,none,1,(.cQ Hd)⟩,oC Mj 260 [Lt,Lu],oM oq Lv]))) (.qX [oP Mk (GK yE (kI 3 1)),oM D6 Lw]))))
def c98:au:=(sR [oP agr (.box ik),oP uO (.gJ (.c (.str 0 0))),oM uP (kI 3 0)] (.seq (sR [oP wH (.cI 9 lD),oF yK 0 lD,oL yL sS,oP wI (.ft lT),oC wJ 86 [nM,nU,(kI 3 1024)],oM jK qg] (sR [oM uR eC,oP Bq (Fj lU (kI 3 0))] (.cond vR (sR [oM yM eC,oP uO (.gJ (.c (.str 0 0))),oM uP uL] .ret) .skip))) (.seq (.th [oF yN 0 lD,⟨0,yO,none,1,(.cQ sU)⟩,⟨0,yP,none,1,(.ft vT)⟩,⟨0,yQ,none,1,(.jA false 1 [(.int 3 0)] [⟨0,⟨1,vU⟩⟩])⟩,⟨0,yR,none,1,(.call 260 [(.c (.str 0 0)),yx])⟩,oF yS 0 lD,⟨0,yT,none,1,(.cQ yA)⟩,oC yU 260 [yz,yB],oM oq yC]) (sR [oM Br lS,oF Bs 1 lD,oL Bt yD,oP DX (.ft vV),oP DY (.jA false 1 [(.int 3 0)] [⟨0,⟨1,CV⟩⟩]),oC DZ 260 [uM,CW],oM oq CX] (.seq (sR [oF D0 1 lD,oL HM CY,oP HN (.ft CZ),oM D6 (kI 3 0)] (.block 0 (.loop DI))) (sR [oF Mm 2 lD,oP Mn (.cI 7 Lx),oP ou (.nP [(.int 7 0),(.int 7 0),(.int 7 0),(.int 7 0),(.int 3 0),(.int 3 0),.aD]),oP none (.jF 7 iZ Ly)] (sR [oF Mo 2 iZ,oP Mp (.cI 2 Lz),oP Mq (.build [(.int 7 0),(.int 7 0)] []),oP Mr (.jb [1,1] true LD LF),oM uQ He] (sR [oM Mt lS,oM Mu kf,oC HP 264 [LG],oP Mv (.jA false 1 [(.int 3 0)] [⟨0,⟨1,C7⟩⟩]),oC Mw 260 [Hf,LH],oM oq LJ] (.seq (sR [oM Mx kf] (.cond LK (.th [oM d100 lS,oF d101 0 iZ,⟨0,d102,none,1,(.cI 2 LM)⟩,⟨0,d103,none,1,(.call 262 [LL,Hg])⟩,oF d104 2 iZ,⟨0,d105,none,1,(.cI 2 ON)⟩,⟨0,d106,none,1,(.call 262 [LN,a105])⟩,oF d107 4 iZ,⟨0,d110,none,1,(.cQ a107)⟩,oF d111 5 iZ,⟨0,d112,none,1,(.cQ OP)⟩,⟨0,d113,none,1,(.jA false 2 [(.int 3 0),(.int 3 0)] [⟨0,⟨1,LO⟩⟩,⟨1,⟨1,OQ⟩⟩])⟩,⟨0,d114,none,1,(.call 260 [OO,OS])⟩,oF d115 6 iZ,⟨0,d116,none,1,(.cQ OU)⟩,oC d117 260 [OT,a116],oM oq a117]) .skip)) (.seq (sR [oM d120 lS,oC d121 242 [OV],oP d122 (gt3 OW (kI 3 48))] (.cond OX (sR [oP uO (.gJ (.c (.str 0 0))),oM uP (kI 3 3)] .ret) .skip)) (sR [oM d123 lS,oM uO OY,oM uP (kI 3 0)] .ret)))))))))))
def C99:=oo (cd 99) (by conv=>lhs;reduce)
def rP:=oo (lb 0 C99) (by conv=>lhs;reduce)
def c99:=oA (λa=>lm [a] C99) (by conv=>lhs;reduce) rP
def acy:=oo (cd 100) (by conv=>lhs;reduce)
def rN:au:=(sR [oP jK (.box ik),oP oq (.box lD),oM ou (kI 3 0)] (.seq (sR [oF uQ 2 eC,oP wH (.cI 2 kf),oP yK (.build [(.int 7 0),(.int 7 0)] []),oP yL (.jb [1,1] false nM sS)] (.cond lT (.seq (sR [oF wI 0 eC,oP wJ (.cI 2 nU),oF uR 2 eC,oP Bq (.cI 2 lU),oP yM (.jb [1,1] true qg vR),oM yN uL,⟨0,yO,(gF .i0 .i2 .i2),0,(.gI 4 eC)⟩,⟨0,yP,(gF .i0 .i2 .i2),0,(.cQ vT)⟩,⟨0,yQ,(gF .i0 .i2 .i2),0,(Fj vU (kI 3 0))⟩,oP yR (.pick sU (.c (.bool true)) yx),oM yS yz,⟨0,yT,(gF .i0 .i2 .i7),0,(.gI 5 eC)⟩,⟨0,yU,(gF .i0 .i2 .i7),0,(.cQ yB)⟩,⟨0,Br,(gF .i0 .i2 .i7),0,(Fj yC (kI 3 0))⟩,oP Bs (.pick yA (.c (.bool true)) uM),oM Bt yD,⟨0,DX,(gF .i0 .i3 .i4),0,(.gI 6 eC)⟩,⟨0,DY,(gF .i0 .i3 .i4),0,(.cQ CV)⟩,⟨0,DZ,(gF .i0 .i3 .i4),0,(.ft CW)⟩,⟨0,D0,(gF .i0 .i3 .i4),0,(Fj CX (kI 3 0))⟩,oP HM (.pick vV (.c (.bool true)) CY)] (.cond CZ (sR [oM ou (kI 3 2)] .ret) .skip)) (sR [oM ou (kI 3 0)] .ret)) .skip)) (.seq (sR [oF HN 0 eC,oP D6 (.cI 2 Hc),oP L4 (.cI 2 lS),oP L5 (.jb [1,1] true yE Lj),oM L6 Lk,⟨0,L7,(gF .i0 .i4 .i6),0,(.gI 2 eC)⟩,⟨0,L8,(gF .i0 .i4 .i6),0,(.cI 2 Lm)⟩,⟨0,L9,(gF .i0 .i4 .i6),0,(.cI 2 lS)⟩,⟨0,Ma,(gF .i0 .i4 .i6),0,(.call 200 [Ln,Lo])⟩,⟨0,Mb,(gF .i0 .i4 .i6),0,(.cmp 3 (.le 9223372036854775808 18446744073709551616) Lp (kI 3 0))⟩,oP Mc (.pick Ll (.c (.bool true)) Lq),oM Md Lr,⟨0,Me,(gF .i0 .i5 .i5),0,(.gI 4 eC)⟩,⟨0,Mf,(gF .i0 .i5 .i5),0,(.cQ OM)⟩,⟨0,Mg,(gF .i0 .i5 .i5),0,(CN Lt (kI 3 1))⟩,oP Mh (.pick Ls (.c (.bool true)) Hd),oM Mj Lu,⟨0,Mk,(gF .i0 .i6 .i2),0,(.gI 5 eC)⟩,⟨0,Mm,(gF .i0 .i6 .i2),0,(.cQ Lw)⟩,⟨0,Mn,(gF .i0 .i6 .i2),0,(.gI 4 eC)⟩,⟨0,Mo,(gF .i0 .i6 .i2),0,(.cQ Ly)⟩,⟨0,Mp,(gF .i0 .i6 .i2),0,(.cmp 3 (.le 9223372036854775808 18446744073709551616) Lx Lz)⟩,oP Mq (.pick Lv (.c (.bool true)) LD),oM Mr LF,⟨0,Mt,(gF .i0 .i7 .i1),0,(.gI 5 eC)⟩,⟨0,Mu,(gF .i0 .i7 .i1),0,(.cQ Hf)⟩,⟨0,HP,(gF .i0 .i7 .i1),0,(.gJ sN)⟩,⟨0,Mv,(gF .i0 .i7 .i1),0,(gt3 LG C7)⟩,oP Mw (.pick He (.c (.bool true)) LH)] (.cond LJ (sR [oM ou (kI 3 2)] .ret) .skip)) (sR [oF Mx 6 eC,oL d100 LK,oM d101 sN,oM d102 sO,oC d103 198 [LL,LM,Hg],oM ou LN] .ret))))
def acz:=oo (cd 102) (by conv=>lhs;reduce)
def Z7:=oo (cd 103) (by conv=>lhs;reduce)
noncomputable def kX:RC×RC:=aba ((Tryz.prog.funcs[104]?).bind (gi Tryz.prog 104))
noncomputable def acA:au:=(sR [oP uP (.box lD),oP jK (.nP [.aD]),oP oq (.nP [(.int 3 0)])] (.seq (sR [oL ou sO,oP uQ (CN iZ (kI 3 0)),oM wH kf,⟨0,yK,(gF .i0 .i1 .i2),0,(.cQ sO)⟩,⟨0,yL,(gF .i0 .i1 .i2),0,(gt3 sS (kI 3 1024))⟩,oP wI (.pick nM (.c (.bool true)) lT)] (.cond nU (sR [oP none (.ek eC (.c .aD)),oP none (.ek lS (kI 3 2))] .ret) .skip)) (sR [oL wJ sO,oP uR (.mkSlice false [(.int 3 0)] qg qg),oP jB (.nP [.aD]),oP none (.ek rF lU)] (.seq (sR [oM Bq ik,oC yM 268 [vR]] (.block 0 (.kK uL [s022] kX.1 kX.2))) (sR [oL D0 rF,oP none (.ek eC CY),oP none (.ek lS (kI 3 0))] .ret)))))
def Xv:au:=(.qX [oM tf sU])
def Xw:au:=(.block 1 (.seq (sR [oM yO jz,oP yP (CN vT (kI 3 193)),oM yQ vU,⟨0,yR,(gF .i0 .i2 .i5),0,(.gJ jz)⟩,⟨0,yS,(gF .i0 .i2 .i5),0,(.cQ sO)⟩,⟨0,yT,(gF .i0 .i2 .i5),0,(.cmp 3 (.ge 9223372036854775808 18446744073709551616) yz yA)⟩,oP yU (.pick yx (.c (.bool true)) yB)] (.cond yC (sR [oP none (.ek eC (.c .aD)),oP none (.ek lS (kI 3 2))] .ret) .skip)) (.qX [oL Br rF,oM Bs jz,oP Bt (.yZ 1 uM yD),oL DX vV,oP DY (GK CV (kI 3 1)),oP DZ (.yZ 1 uM yD),oP none (.ek CX CW)])))
theorem Zl:aO Tryz.prog kX.1=Xv/\aO Tryz.prog kX.2=Xw:=by constructor<;>kernel_rfl
noncomputable def dZ:RC×RC:=aba ((Tryz.prog.funcs[105]?).bind (gi Tryz.prog 105))
noncomputable def UC:au:=(sR [oP uP (.box lD),oP jK (.gJ (.c .aD)),oM oq (kI 3 0)] (.seq (sR [oL ou sO,oP uQ (CN iZ (kI 3 0))] (.cond kf (sR [oP jK (.gJ (.c .aD)),oM oq (kI 3 2)] .ret) .skip)) (.seq (.seq (.th [⟨0,wH,none,1,(.cQ sO)⟩,oM yK ik,⟨0,yL,none,1,(.call 270 [sS])⟩,oP wI (gt3 nM lT)]) (.cond nU (sR [oP jK (.gJ (.c .aD)),oM oq (kI 3 7)] .ret) .skip)) (sR [oP jB (.nP [.aD])] (.seq (sR [oM wJ ik,oC uR 272 [qg]] (.block 0 (.kK lU [s020] dZ.1 dZ.2))) (sR [oL yU rF,oM jK yC,oM oq (kI 3 0)] .ret))))))
def Pn:au:=(.qX [oM tf vR])
def Po:au:=(.block 1 (.seq (sR [oL yM rF,oP yN (.ft uL),oL yO sO,oP yP (UT sU vT)] (.cond vU (.exit 0) .skip)) (.qX [oL yQ rF,oM yR jz,oP yS (.jA false 1 [(.int 3 0)] [⟨0,⟨1,yz⟩⟩]),oP yT (.app false 1 yx yA),oP none (.ek rF yB)])))
theorem K1:aO Tryz.prog dZ.1=Pn/\aO Tryz.prog dZ.2=Po:=by constructor<;>kernel_rfl
def abS:=oo (cd 106) (by conv=>lhs;reduce)
def wh:=oo (lb 0 abS) (by conv=>lhs;reduce)
def acB:=oA (λa=>lm [a] abS) (by conv=>lhs;reduce) wh
def abT:=oo (cd 107) (by conv=>lhs;reduce)
def Hr:=oo (lb 0 abT) (by conv=>lhs;reduce)
def acC:=oA (λa=>lm [a] abT) (by conv=>lhs;reduce) Hr
def UD:=oo (cd 108) (by conv=>lhs;reduce)
def acD:=oo (cd 109) (by conv=>lhs;reduce)
def Zw:=oo (cd 111) (by conv=>lhs;reduce)
def Bb:=oo (lb 0 Zw) (by conv=>lhs;reduce)
def wi:=oo (lb 1 Zw) (by conv=>lhs;reduce)
def acE:=oB (λa b=>lm [a,b] Zw) (by conv=>lhs;reduce) Bb wi
def LW:au:=(sR [oP uO (.box ik),oP jK (.gJ (.c (.bool false)))] (.seq (sR [oL tf sN,oC ou 142 [jz],oP uQ (UT iZ (kI 3 1))] (.cond kf (sR [oP jK (.gJ (.c (.bool false)))] .ret) .skip)) (sR [oP wH .mkMap,oP oq (.nP [.uU]),oP none (.ek lS nM)] (sR [oP yK (.mkF 282 [sN,lS]),oM jB sS] (.seq (.th [oM yL lD,oM wI rF,oC wJ 284 [lT,nU],oP uR (.uT qg),oM Bq lU,⟨0,yM,(gT .i0 .i2 .i0),0,(.cQ lS)⟩,⟨0,yN,(gT .i0 .i2 .i0),0,(.BO uL)⟩,⟨0,yO,(gT .i0 .i2 .i0),0,(UT sU (kI 3 0))⟩,⟨0,yP,(gT .i0 .i2 .i0),0,(.gJ vT)⟩,⟨0,yQ,(gF .i0 .i2 .i4),1,(.cQ lS)⟩,⟨0,yR,(gF .i0 .i2 .i4),1,(.BO yx)⟩,⟨0,yS,(gF .i0 .i2 .i4),1,(.cQ sN)⟩,⟨0,yT,(gF .i0 .i2 .i4),0,(.Fm yA)⟩,⟨0,yU,(gF .i0 .i2 .i4),0,(.gI 3 yB)⟩,⟨0,Br,(gF .i0 .i2 .i4),1,(.cQ yC)⟩,⟨0,Bs,(gF .i0 .i2 .i4),1,(.cQ sN)⟩,⟨0,Bt,(gF .i0 .i2 .i4),0,(.Fm yD)⟩,⟨0,DX,(gF .i0 .i2 .i4),0,(.gI 0 vV)⟩,⟨0,DY,(gF .i0 .i2 .i4),1,(.cQ CV)⟩,⟨0,DZ,(gF .i0 .i2 .i4),1,(.BO CW)⟩,⟨0,D0,(gF .i0 .i2 .i4),0,(sb3 uM CX)⟩,⟨0,HM,(gF .i0 .i2 .i4),0,(.cmp 3 (.le 9223372036854775808 18446744073709551616) yz CY)⟩,⟨0,HN,(gT .i0 .i2 .i0),0,(.pick vU (.c (.bool true)) CZ)⟩,oP D6 (.pick vR Hc (.c (.bool false))),oM jK yE]) .ret)))))
def abU:=oo (cd 114) (by conv=>lhs;reduce)
def wj:=oo (lb 0 abU) (by conv=>lhs;reduce)
def Z8:=oA (λa=>lm [a] abU) (by conv=>lhs;reduce) wj
def UE:au:=(sR [oP uO (.box ik),oP uP (.gJ (.c (.bool false)))] (sR [oF jK 0 sN,oP oq (.cI 2 eC),oP jB (.cI 2 lD),oP tf (.jb [1,1] false lS rF),oM uP jz] .ret))
def abV:=oo (cd 116) (by conv=>lhs;reduce)
def wk:=oo (lb 0 abV) (by conv=>lhs;reduce)
def Z9:=oA (λa=>lm [a] abV) (by conv=>lhs;reduce) wk
def aaa:au:=(sR [oP uO (.box ik),oP uP (.gJ (.c (.bool false)))] (sR [oF jK 8 sN,oP oq (.cI 2 eC),oP jB (.cI 2 lD),oP tf (.jb [1,1] false lS rF),oM uP jz] .ret))
def acF:=oo (cd 118) (by conv=>lhs;reduce)
def UF:=oo (cd 119) (by conv=>lhs;reduce)
def acH:=oo (cd 121) (by conv=>lhs;reduce)
def acI:=oo (cd 124) (by conv=>lhs;reduce)
def acJ:=oo (cd 125) (by conv=>lhs;reduce)
def Dk:=oo (cd 126) (by conv=>lhs;reduce)
def UG:=oo (cd 127) (by conv=>lhs;reduce)
def abW:=oo (cd 128) (by conv=>lhs;reduce)
def qH:=oo (lb 0 abW) (by conv=>lhs;reduce)
def UH:=oA (λa=>lm [a] abW) (by conv=>lhs;reduce) qH
def aab:=oo (cd 129) (by conv=>lhs;reduce)
def abX:=oo (cd 130) (by conv=>lhs;reduce)
def Bc:=oo (lb 0 abX) (by conv=>lhs;reduce)
def acK:=oA (λa=>lm [a] abX) (by conv=>lhs;reduce) Bc
def acL:=oo (cd 131) (by conv=>lhs;reduce)
def acM:=oo (cd 132) (by conv=>lhs;reduce)
def afC:=oo (cd 133) (by conv=>lhs;reduce)
def acN:=oo (cd 134) (by conv=>lhs;reduce)
noncomputable def nQ:RC×RC:=aba ((Tryz.prog.funcs[135]?).bind (gi Tryz.prog 135))
noncomputable def acO:au:=(sR [oM uO (kI 3 0)] (sR [oP uP (.nP [(.int 3 0)]),oP none (.ek sO (kI 3 0))] (.seq (sR [oM jK ik,oC oq 272 [eC]] (.block 0 (.kK lS [s006] nQ.1 nQ.2))) (sR [oL uQ sO,oM uO kf] .ret))))
def XH:au:=.skip
def XI:au:=(.block 1 (.qX [oL tf sO,oP ou (GK jz (kI 3 1)),oP none (.ek sO iZ)]))
theorem Zm:aO Tryz.prog nQ.1=XH/\aO Tryz.prog nQ.2=XI:=by constructor<;>kernel_rfl
def acP:=oo (cd 136) (by conv=>lhs;reduce)
def afD:=oo (cd 137) (by conv=>lhs;reduce)
def acQ:=oo (cd 138) (by conv=>lhs;reduce)
def abY:=oo (cd 139) (by conv=>lhs;reduce)
def wo:=oo (lb 0 abY) (by conv=>lhs;reduce)
def acR:=oA (λa=>lm [a] abY) (by conv=>lhs;reduce) wo
def acS:=oo (cd 140) (by conv=>lhs;reduce)
def Pw:=oo (cd 141) (by conv=>lhs;reduce)
def UI:=oo (cd 142) (by conv=>lhs;reduce)
def acT:=oo (cd 143) (by conv=>lhs;reduce)
def Px:=oo (cd 153) (by conv=>lhs;reduce)
def sY:au:=(sR [oP Bq (CN lU qg)] (.seq (.cond vR .skip (.exit 2)) (.seq (.block 3 (sR [oP yM (.yZ 1 nU lU),oL yN uL,oM jB sU] (sR [oM yO rF,oP yP (Fj vT (kI 3 0)),oM yQ vU,⟨0,yR,(gT .i0 .i2 .i5),0,(.gJ ik)⟩,⟨0,yS,(gT .i0 .i2 .i5),0,(.gJ rF)⟩,⟨0,yT,(gT .i0 .i2 .i5),0,(.Rf yz [yA])⟩,⟨0,yU,(gT .i0 .i2 .i5),0,(.uT yB)⟩,oP Br (.pick yx yC (.c (.bool false)))] (.cond uM .ret .skip)))) (.qX [oP Bs (GK lU (kI 3 1)),oM uR yD]))))
def Bd:au:=(sR [oP wH (CN kf iZ)] (.seq (.cond nM .skip (.exit 0)) (.seq (.block 1 (sR [oP yK (.yZ 1 jz kf),oL yL sS,oM jK lT] (sR [oM wI eC,oP wJ (.ft nU),oM uR (kI 3 0)] (.block 2 (.loop sY))))) (.qX [oP Bt (GK kf (kI 3 1)),oM uQ vV]))))
def acU:au:=(sR [oL tf lD,oP ou (.ft jz),oM uQ (kI 3 0)] (.block 0 (.loop Bd)))
def abZ:=oo (cd 155) (by conv=>lhs;reduce)
def sZ:=oo (lb 0 abZ) (by conv=>lhs;reduce)
def aac:=oA (λa=>lm [a] abZ) (by conv=>lhs;reduce) sZ
def acV:=oo (cd 156) (by conv=>lhs;reduce)
def ab0:=oo (cd 157) (by conv=>lhs;reduce)
def Be:=oo (lb 0 ab0) (by conv=>lhs;reduce)
def UJ:=oA (λa=>lm [a] ab0) (by conv=>lhs;reduce) Be
/-- The functions,as they stand in a table. -/
structure aB (t:Nat->Option df):Prop where
 k3:t 3=some (.code [s000] [(.tmp s002)] c3)
 k4:t 4=some (.code [s000,s001,s002] [(.tmp s006)] c4)
 k5:t 5=some (.code [s000,s001] [(.tmp s004)] c5)
 k6:t 6=some (.code [s000,s001,s002] [(.tmp s006)] c6)
 k8:t 8=some (.code [s000] [(.tmp s002),(.tmp s003)] c8)
 k9:t 9=some (.code [s000] [(.tmp s002)] c9)
 Vb:t 10=some (.code [s000,s001,s002,s003] [(.tmp s010),(.tmp s011)] Xu)
 k11:t 11=some (.code [s000] [(.tmp s002),(.tmp s003)] c11)
 k12:t 12=some (.code [s000,s001] [(.tmp s004)] c12)
 k13:t 13=some (.code [s000] [(.tmp s002)] c13)
 k14:t 14=some (.code [s000,s001] [(.oe s004 2)] c14)
 k15:t 15=some (.code [s000] [(.tmp s002)] c15)
 k16:t 16=some (.code [s000,s001,s002] [(.tmp s006)] c16)
 k18:t 18=some (.code [s000,s001,s002] [(.tmp s006)] c18)
 k19:t 19=some (.code [s000,s001] [(.tmp s004)] c19)
 k20:t 20=some (.code [s000,s001] [(.tmp s004)] c20)
 k21:t 21=some (.code [s000] [(.tmp s002)] c21)
 k23:t 23=some (.code [s000] [(.tmp s002),(.tmp s003)] c23)
 k24:t 24=some (.code [s000,s001,s002] [(.tmp s006)] c24)
 k26:t 26=some (.code [s000] [] c26)
 k47:t 47=some (.code [s000] [(.tmp s002)] c47)
 k28:t 28=some (.code [s000] [(.tmp s002)] c28)
 k30:t 30=some (.code [s000,s001] [(.tmp s004)] c30)
 k31:t 31=some (.code [s000,s001] [(.tmp s004),(.tmp s005)] c31)
 k32:t 32=some (.code [s000] [(.tmp s002)] c32)
 k33:t 33=some (.code [s000,s001] [(.tmp s004)] c33)
 k34:t 34=some (.code [s000] [(.oe s002 8)] c34)
 k35:t 35=some (.code [s000,s001,s002] [(.tmp s006)] c35)
 k36:t 36=some (.code [s000,s001] [(.tmp s004)] c36)
 k37:t 37=some (.code [s000,s001] [(.tmp s004)] c37)
 k38:t 38=some (.code [s000,s001] [(.tmp s004)] c38)
 k39:t 39=some (.code [s000,s001] [(.tmp s004)] c39)
 k40:t 40=some (.code [s000] [(.tmp s002)] c40)
 k41:t 41=some (.code [s000] [(.tmp s002),(.tmp s003)] c41)
 k42:t 42=some (.code [s000] [(.oe s002 9),(.tmp s003)] c42)
 k43:t 43=some (.code [s000,s001,s002] [(.tmp s006)] c43)
 k44:t 44=some (.code [s000] [(.tmp s002)] c44)
 k45:t 45=some (.code [s000,s001] [(.tmp s004)] c45)
 k46:t 46=some (.code [s000] [(.tmp s002)] c46)
 k48:t 48=some (.code [s000,s001] [(.tmp s004),(.tmp s005)] UK)
 k49:t 49=some (.code [s000,s001] [(.tmp s004),(.tmp s005)] c49)
 k50:t 50=some (.code [s000,s001] [(.tmp s004),(.tmp s005)] c50)
 k51:t 51=some (.code [s000] [(.tmp s002)] c51)
 k52:t 52=some (.code [s000,s001,s002] [(.tmp s006)] c52)
 k53:t 53=some (.code [s000,s001] [(.tmp s004),(.tmp s005),(.tmp s006)] c53)
 k54:t 54=some (.code [s000] [(.oe s002 4)] c54)
 k55:t 55=some (.code [s000] [(.tmp s002)] c55)
 k56:t 56=some (.code [s000,s001,s002] [(.tmp s006)] c56)
 k57:t 57=some (.code [s000] [] c57)
 k58:t 58=some (.code [s000,s001,s002] [] c58)
 k59:t 59=some (.code [s000,s001] [(.tmp s004)] c59)
 k60:t 60=some (.code [s000] [(.oe s002 11)] c60)
 k61:t 61=some (.code [s000,s001,s002] [(.tmp s006)] c61)
 k62:t 62=some (.code [s000] [(.tmp s002)] c62)
 k63:t 63=some (.code [s000] [(.tmp s002),(.tmp s003)] c63)
 Zc:t 64=some (.code [s000,s001] [(.tmp s004)] X9)
 k65:t 65=some (.code [s000] [(.tmp s002)] c65)
 k66:t 66=some (.code [s000] [(.tmp s002)] c66)
 k67:t 67=some (.code [s000,s001] [(.tmp s004),(.tmp s005)] c67)
 k68:t 68=some (.code [s000,s001,s002] [(.tmp s006)] c68)
 k69:t 69=some (.code [s000,s001,s002] [] c69)
 k70:t 70=some (.code [s000,s001,s002] [(.tmp s006),(.tmp s007)] c70)
 k71:t 71=some (.code [s000] [(.tmp s002)] c71)
 k75:t 75=some (.code [s000,s001] [(.tmp s004)] c75)
 k76:t 76=some (.code [s000,s001] [] c76)
 k77:t 77=some (.code [s000,s001] [(.tmp s004),(.tmp s005)] c77)
 k78:t 78=some (.code [s000,s001] [] c78)
 k79:t 79=some (.code [s000,s001] [] c79)
 k80:t 80=some (.code [s000,s001] [(.tmp s004),(.tmp s005)] c80)
 k81:t 81=some (.code [s000] [(.tmp s002)] c81)
 k82:t 82=some (.code [s000] [(.tmp s002),(.tmp s003),(.tmp s004)] c82)
 k83:t 83=some (.code [s000,s001] [(.tmp s004),(.tmp s005)] c83)
 k84:t 84=some (.code [s000,s001] [(.tmp s004)] c84)
 k86:t 86=some (.code [s000] [(.tmp s002),(.tmp s003)] c86)
 k87:t 87=some (.code [s000,s001] [(.tmp s004)] c87)
 k88:t 88=some (.code [s000] [(.tmp s002)] c88)
 k89:t 89=some (.code [s000,s001] [(.tmp s004)] c89)
 k90:t 90=some (.code [s000] [(.tmp s002)] c90)
 k91:t 91=some (.code [s000] [(.tmp s001)] c91)
 k92:t 92=some (.code [s000] [(.tmp s002)] c92)
 k93:t 93=some (.code [s000] [(.oe s001 2)] c93)
 k94:t 94=some (.code [s000,s001] [(.tmp s002)] c94)
 k95:t 95=some (.code [s000,s001,s002] [(.tmp s006)] c95)
 k96:t 96=some (.code [s000,s001,s002] [(.tmp s006)] c96)
 k97:t 97=some (.code [s000,s001,s002] [(.oe s003 4)] c97)
 k98:t 98=some (.code [s000] [(.tmp s002),(.tmp s003)] c98)
 k99:t 99=some (.code [s000,s001,s002] [(.tmp s006)] c99)
 adW:t 100=some (.code [s000,s001] [(.tmp s004)] acy)
 sd:t 101=some (.code [s000,s001,s002,s003] [(.tmp s010)] rN)
 adX:t 102=some (.code [s000,s001] [(.tmp s004)] acz)
 adY:t 103=some (.code [s000] [(.tmp s002)] Z7)
 adZ:t 104=some (.code [s000,s001] [(.DK s004),(.DK s005)] acA)
 Vd:t 105=some (.code [s000,s001] [(.tmp s004),(.tmp s005)] UC)
 ad0:t 106=some (.code [s000] [(.oe s002 9)] acB)
 ad1:t 107=some (.code [s000] [(.tmp s002)] acC)
 ad2:t 108=some (.code [s000,s001] [(.tmp s004)] UD)
 ad4:t 109=some (.code [s000,s001] [(.tmp s004)] acD)
 ad5:t 111=some (.code [s000,s001] [(.tmp s004),(.tmp s005)] acE)
 ad6:t 112=some (.code [s000,s001] [(.tmp s004)] LW)
 aaJ:t 114=some (.code [s000,s001] [(.tmp s004)] Z8)
 ad7:t 115=some (.code [s000,s001] [(.tmp s003)] UE)
 aaK:t 116=some (.code [s000,s001] [(.tmp s004)] Z9)
 ad8:t 117=some (.code [s000,s001] [(.tmp s003)] aaa)
 ad9:t 118=some (.code [s000] [(.tmp s002),(.tmp s003),(.tmp s004)] acF)
 aea:t 119=some (.code [s000,s001] [(.tmp s004)] UF)
 aeb:t 121=some (.code [s000] [(.tmp s002)] acH)
 aec:t 124=some (.code [s000] [(.tmp s002)] acI)
 aed:t 125=some (.code [s000] [(.tmp s002)] acJ)
 aee:t 126=some (.code [s000,s001,s002] [(.tmp s006)] Dk)
 aef:t 127=some (.code [s000] [(.tmp s002)] UG)
 aaM:t 128=some (.code [s000,s001,s002] [(.tmp s003)] UH)
 aeg:t 129=some (.code [s000,s001] [(.tmp s004)] aab)
 aeh:t 130=some (.code [s000,s001] [(.tmp s004)] acK)
 aei:t 131=some (.code [s000,s001] [(.tmp s004)] acL)
 aej:t 132=some (.code [s000] [(.tmp s002)] acM)
 aek:t 133=some (.code [s000] [(.tmp s002)] afC)
 ael:t 134=some (.code [s000] [(.tmp s002)] acN)
 aem:t 135=some (.code [s000] [(.tmp s002)] acO)
 aen:t 136=some (.code [s000] [(.tmp s002)] acP)
 aeo:t 137=some (.code [s000] [(.tmp s002)] afD)
 aep:t 138=some (.code [s000] [(.tmp s002)] acQ)
 aeq:t 139=some (.code [s000,s001] [(.tmp s004)] acR)
 aer:t 140=some (.code [s000,s001] [(.tmp s004)] acS)
 aes:t 141=some (.code [s000,s001,s002] [(.tmp s004)] Pw)
 aet:t 142=some (.code [s000,s001] [(.tmp s004)] UI)
 aeu:t 143=some (.code [s000] [(.tmp s002)] acT)
 aev:t 153=some (.code [s000] [(.tmp s002)] Px)
 aew:t 154=some (.code [s000,s001] [] acU)
 aaN:t 155=some (.code [s000,s001] [] aac)
 aex:t 156=some (.code [s000,s001] [(.tmp s004)] acV)
 aey:t 157=some (.code [s000,s001] [(.tmp s004)] UJ)
theorem Y4:aB (λf=>(Tryz.prog.funcs[f]?).bind (gi Tryz.prog f)):=by constructor<;>kernel_rfl
theorem aB.over{t t':Nat->Option df}(h:∀f∈[3,4,5,6,8,9,10,11,12,13,14,15,16,18,19,20,21,23,24,26,47,28,30,31,32,33,34,35,36,37,38,39,40,41,42,43,44,45,46,48,49,50,51,52,53,54,55,56,57,58,59,60,61,62,63,64,65,66,67,68,69,70,71,75,76,77,78,79,80,81,82,83,84,86,87,88,89,90,91,92,93,94,95,96,97,98,99,100,101,102,103,104,105,106,107,108,109,111,112,114,115,116,117,118,119,121,124,125,126,127,128,129,130,131,132,133,134,135,136,137,138,139,140,141,142,143,153,154,155,156,157],t f=t' f)(c:aB t'):aB t:=⟨(h 3 (by decide)).trans c.k3,(h 4 (by decide)).trans c.k4,(h 5 (by decide)).trans c.k5,(h 6 (by decide)).trans c.k6,(h 8 (by decide)).trans c.k8,(h 9 (by decide)).trans c.k9,(h 10 (by decide)).trans c.Vb,(h 11 (by decide)).trans c.k11,(h 12 (by decide)).trans c.k12,(h 13 (by decide)).trans c.k13,(h 14 (by decide)).trans c.k14,(h 15 (by decide)).trans c.k15,(h 16 (by decide)).trans c.k16,(h 18 (by decide)).trans c.k18,(h 19 (by decide)).trans c.k19,(h 20 (by decide)).trans c.k20,(h 21 (by decide)).trans c.k21,(h 23 (by decide)).trans c.k23,(h 24 (by decide)).trans c.k24,(h 26 (by decide)).trans c.k26,(h 47 (by decide)).trans c.k47,(h 28 (by decide)).trans c.k28,(h 30 (by decide)).trans c.k30,(h 31 (by decide)).trans c.k31,(h 32 (by decide)).trans c.k32,(h 33 (by decide)).trans c.k33,(h 34 (by decide)).trans c.k34,(h 35 (by decide)).trans c.k35,(h 36 (by decide)).trans c.k36,(h 37 (by decide)).trans c.k37,(h 38 (by decide)).trans c.k38,(h 39 (by decide)).trans c.k39,(h 40 (by decide)).trans c.k40,(h 41 (by decide)).trans c.k41,(h 42 (by decide)).trans c.k42,(h 43 (by decide)).trans c.k43,(h 44 (by decide)).trans c.k44,(h 45 (by decide)).trans c.k45,(h 46 (by decide)).trans c.k46,(h 48 (by decide)).trans c.k48,(h 49 (by decide)).trans c.k49,(h 50 (by decide)).trans c.k50,(h 51 (by decide)).trans c.k51,(h 52 (by decide)).trans c.k52,(h 53 (by decide)).trans c.k53,(h 54 (by decide)).trans c.k54,(h 55 (by decide)).trans c.k55,(h 56 (by decide)).trans c.k56,(h 57 (by decide)).trans c.k57,(h 58 (by decide)).trans c.k58,(h 59 (by decide)).trans c.k59,(h 60 (by decide)).trans c.k60,(h 61 (by decide)).trans c.k61,(h 62 (by decide)).trans c.k62,(h 63 (by decide)).trans c.k63,(h 64 (by decide)).trans c.Zc,(h 65 (by decide)).trans c.k65,(h 66 (by decide)).trans c.k66,(h 67 (by decide)).trans c.k67,(h 68 (by decide)).trans c.k68,(h 69 (by decide)).trans c.k69,(h 70 (by decide)).trans c.k70,(h 71 (by decide)).trans c.k71,(h 75 (by decide)).trans c.k75,(h 76 (by decide)).trans c.k76,(h 77 (by decide)).trans c.k77,(h 78 (by decide)).trans c.k78,(h 79 (by decide)).trans c.k79,(h 80 (by decide)).trans c.k80,(h 81 (by decide)).trans c.k81,(h 82 (by decide)).trans c.k82,(h 83 (by decide)).trans c.k83,(h 84 (by decide)).trans c.k84,(h 86 (by decide)).trans c.k86,(h 87 (by decide)).trans c.k87,(h 88 (by decide)).trans c.k88,(h 89 (by decide)).trans c.k89,(h 90 (by decide)).trans c.k90,(h 91 (by decide)).trans c.k91,(h 92 (by decide)).trans c.k92,(h 93 (by decide)).trans c.k93,(h 94 (by decide)).trans c.k94,(h 95 (by decide)).trans c.k95,(h 96 (by decide)).trans c.k96,(h 97 (by decide)).trans c.k97,(h 98 (by decide)).trans c.k98,(h 99 (by decide)).trans c.k99,(h 100 (by decide)).trans c.adW,(h 101 (by decide)).trans c.sd,(h 102 (by decide)).trans c.adX,(h 103 (by decide)).trans c.adY,(h 104 (by decide)).trans c.adZ,(h 105 (by decide)).trans c.Vd,(h 106 (by decide)).trans c.ad0,(h 107 (by decide)).trans c.ad1,(h 108 (by decide)).trans c.ad2,(h 109 (by decide)).trans c.ad4,(h 111 (by decide)).trans c.ad5,(h 112 (by decide)).trans c.ad6,(h 114 (by decide)).trans c.aaJ,(h 115 (by decide)).trans c.ad7,(h 116 (by decide)).trans c.aaK,(h 117 (by decide)).trans c.ad8,(h 118 (by decide)).trans c.ad9,(h 119 (by decide)).trans c.aea,(h 121 (by decide)).trans c.aeb,(h 124 (by decide)).trans c.aec,(h 125 (by decide)).trans c.aed,(h 126 (by decide)).trans c.aee,(h 127 (by decide)).trans c.aef,(h 128 (by decide)).trans c.aaM,(h 129 (by decide)).trans c.aeg,(h 130 (by decide)).trans c.aeh,(h 131 (by decide)).trans c.aei,(h 132 (by decide)).trans c.aej,(h 133 (by decide)).trans c.aek,(h 134 (by decide)).trans c.ael,(h 135 (by decide)).trans c.aem,(h 136 (by decide)).trans c.aen,(h 137 (by decide)).trans c.aeo,(h 138 (by decide)).trans c.aep,(h 139 (by decide)).trans c.aeq,(h 140 (by decide)).trans c.aer,(h 141 (by decide)).trans c.aes,(h 142 (by decide)).trans c.aet,(h 143 (by decide)).trans c.aeu,(h 153 (by decide)).trans c.aev,(h 154 (by decide)).trans c.aew,(h 155 (by decide)).trans c.aaN,(h 156 (by decide)).trans c.aex,(h 157 (by decide)).trans c.aey⟩
def vr:List Nat:=[3,4,5,6,8,9,10,11,12,13,14,15,16,18,19,20,21,23,24,26,47,28,30,31,32,33,34,35,36,37,38,39,40,41,42,43,44,45,46,48,49,50,51,52,53,54,55,56,57,58,59,60,61,62,63,64,65,66,67,68,69,70,71,75,76,77,78,79,80,81,82,83,84,86,87,88,89,90,91,92,93,94,95,96,97,98,99,100,101,102,103,104,105,106,107,108,109,111,112,114,115,116,117,118,119,121,124,125,126,127,128,129,130,131,132,133,134,135,136,137,138,139,140,141,142,143,153,154,155,156,157]
end Go.Ev
