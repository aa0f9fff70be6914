/- The functions' code,as the evaluator has it. -/
import Derived.Test.YtalmhjlkdhlbiaaGreatDoorEvD
import Derived.Test.YtalmhjlkdhlbiaaGreatDoorLg
import Derived.Test.YtalmhjlkdhlbiaaGreatDoorProg
set_option maxRecDepth 100000
noncomputable section
set_option maxHeartbeats 0
namespace Go.Ev
open Go.Proofs
noncomputable def cd (n:Nat):ai:=match (Tryz.prog.funcs[n]?).bind (jg Tryz.prog n) with|some (.code _ _ c)=>c|_=>.bad
def hd:Nat->ai->ai
 | 0,.seq a _=>a
 | n+1,.seq _ b=>hd n b
 | _,c=>c
def cl:ai->List ai
 | .seq a b=>cl a++cl b
 | .cond _ a b=>cl a++cl b
 | .block _ a=>cl a
 | .loop a=>[a]
 | _=>[]
def lb (i:Nat) (c:ai):ai:=(cl c).getD i .bad
def rl:ai->List ai->(ai->List ai->ai)->ai
 | .seq a b,l,k=>rl a l λa l=>rl b l λb l=>k (.seq a b) l
 | .cond c a b,l,k=>rl a l λa l=>rl b l λb l=>k (.cond c a b) l
 | .block i a,l,k=>rl a l λa l=>k (.block i a) l
 | .loop _,x::l,k=>k (.loop x) l
 | c,l,k=>k c l
def lm (l:List ai) (c:ai):ai:=rl c l λc _=>c
def rp (i:Nat) (l:List ai) (c x:ai):ai:=.seq (lm l (hd i c)) x
def sp (i:Nat) (c x:ai):ai:=.seq (hd i c) x
abbrev oo (x:ai) {y:ai} (_:x=y):ai:=y
abbrev oA (x:ai->ai) {y:ai->ai} (_:x=y) (a:ai):ai:=y a
abbrev oB (x:ai->ai->ai) {y:ai->ai->ai} (_:x=y) (a b:ai):ai:=y a b
abbrev oD (x:ai->ai->ai->ai) {y:ai->ai->ai->ai} (_:x=y) (a b c:ai):ai:=y a b c
attribute [go_sem] oo oA oB oD
abbrev oP (d:Option Slot) (x:kV):Cc:=⟨0,d,none,0,x⟩
abbrev lt3 (x y:Arg):kV:=.cmp 3 (.lt 9223372036854775808 18446744073709551616) x y
abbrev gt3 (x y:Arg):kV:=.cmp 3 (.gt 9223372036854775808 18446744073709551616) x y
abbrev ne3 (x y:Arg):kV:=.cmp 3 .ne x y
abbrev eq3 (x y:Arg):kV:=.cmp 3 .eq x y
abbrev ad3 (x y:Arg):kV:=.bin 3 3 (.add 18446744073709551616) x y
abbrev sb3 (x y:Arg):kV:=.bin 3 3 (.sub 18446744073709551616) x y
abbrev kI (k n:Nat):Arg:=.c (.int k n)
abbrev oM (d:Option Slot) (x:Arg):Cc:=⟨0,d,none,0,.iV x⟩
abbrev oF (d:Option Slot) (n:Nat) (x:Arg):Cc:=⟨0,d,none,0,.lY n x⟩
abbrev oL (d:Option Slot) (x:Arg):Cc:=⟨0,d,none,0,.cS x⟩
abbrev oX (d:Option Slot) (x:Arg) (n:Nat):Cc:=⟨0,d,none,0,.NJ x n⟩
abbrev oN (d:Option Slot) (x:Arg):Cc:=⟨0,d,none,0,.OB x⟩
abbrev oC (d:Option Slot) (f:Nat) (l:List Arg):Cc:=⟨0,d,none,0,.call f l⟩
abbrev gF (a b c:I8):Option (Slot×Bool):=some (⟨a,b,c⟩,false)
abbrev gT (a b c:I8):Option (Slot×Bool):=some (⟨a,b,c⟩,true)
abbrev sR (l:List Cc) (b:ai):ai:=.seq (.uu l) b
abbrev s000:Slot:=⟨.i0,.i0,.i0⟩
abbrev s001:Slot:=⟨.i0,.i0,.i1⟩
abbrev s002:Slot:=⟨.i0,.i0,.i2⟩
abbrev s003:Slot:=⟨.i0,.i0,.i3⟩
abbrev s004:Slot:=⟨.i0,.i0,.i4⟩
abbrev s005:Slot:=⟨.i0,.i0,.i5⟩
abbrev s006:Slot:=⟨.i0,.i0,.i6⟩
abbrev s007:Slot:=⟨.i0,.i0,.i7⟩
abbrev s010:Slot:=⟨.i0,.i1,.i0⟩
abbrev s011:Slot:=⟨.i0,.i1,.i1⟩
abbrev s012:Slot:=⟨.i0,.i1,.i2⟩
abbrev s013:Slot:=⟨.i0,.i1,.i3⟩
abbrev s014:Slot:=⟨.i0,.i1,.i4⟩
abbrev s015:Slot:=⟨.i0,.i1,.i5⟩
abbrev s016:Slot:=⟨.i0,.i1,.i6⟩
abbrev s017:Slot:=⟨.i0,.i1,.i7⟩
abbrev s020:Slot:=⟨.i0,.i2,.i0⟩
abbrev s021:Slot:=⟨.i0,.i2,.i1⟩
abbrev s022:Slot:=⟨.i0,.i2,.i2⟩
abbrev s023:Slot:=⟨.i0,.i2,.i3⟩
abbrev s024:Slot:=⟨.i0,.i2,.i4⟩
abbrev s025:Slot:=⟨.i0,.i2,.i5⟩
abbrev s026:Slot:=⟨.i0,.i2,.i6⟩
abbrev s027:Slot:=⟨.i0,.i2,.i7⟩
abbrev s030:Slot:=⟨.i0,.i3,.i0⟩
abbrev s031:Slot:=⟨.i0,.i3,.i1⟩
abbrev s032:Slot:=⟨.i0,.i3,.i2⟩
abbrev s033:Slot:=⟨.i0,.i3,.i3⟩
abbrev s034:Slot:=⟨.i0,.i3,.i4⟩
abbrev s035:Slot:=⟨.i0,.i3,.i5⟩
abbrev s036:Slot:=⟨.i0,.i3,.i6⟩
abbrev s037:Slot:=⟨.i0,.i3,.i7⟩
abbrev s040:Slot:=⟨.i0,.i4,.i0⟩
abbrev s041:Slot:=⟨.i0,.i4,.i1⟩
abbrev s042:Slot:=⟨.i0,.i4,.i2⟩
abbrev s043:Slot:=⟨.i0,.i4,.i3⟩
abbrev s044:Slot:=⟨.i0,.i4,.i4⟩
abbrev s045:Slot:=⟨.i0,.i4,.i5⟩
abbrev s046:Slot:=⟨.i0,.i4,.i6⟩
abbrev s047:Slot:=⟨.i0,.i4,.i7⟩
abbrev s050:Slot:=⟨.i0,.i5,.i0⟩
abbrev s051:Slot:=⟨.i0,.i5,.i1⟩
abbrev s052:Slot:=⟨.i0,.i5,.i2⟩
abbrev s053:Slot:=⟨.i0,.i5,.i3⟩
abbrev s054:Slot:=⟨.i0,.i5,.i4⟩
abbrev s055:Slot:=⟨.i0,.i5,.i5⟩
abbrev s056:Slot:=⟨.i0,.i5,.i6⟩
abbrev s057:Slot:=⟨.i0,.i5,.i7⟩
abbrev s060:Slot:=⟨.i0,.i6,.i0⟩
abbrev s061:Slot:=⟨.i0,.i6,.i1⟩
abbrev s062:Slot:=⟨.i0,.i6,.i2⟩
abbrev s063:Slot:=⟨.i0,.i6,.i3⟩
abbrev s064:Slot:=⟨.i0,.i6,.i4⟩
abbrev s065:Slot:=⟨.i0,.i6,.i5⟩
abbrev s066:Slot:=⟨.i0,.i6,.i6⟩
abbrev s067:Slot:=⟨.i0,.i6,.i7⟩
abbrev s070:Slot:=⟨.i0,.i7,.i0⟩
abbrev s071:Slot:=⟨.i0,.i7,.i1⟩
abbrev s072:Slot:=⟨.i0,.i7,.i2⟩
abbrev s073:Slot:=⟨.i0,.i7,.i3⟩
abbrev s074:Slot:=⟨.i0,.i7,.i4⟩
abbrev s075:Slot:=⟨.i0,.i7,.i5⟩
abbrev s076:Slot:=⟨.i0,.i7,.i6⟩
abbrev s077:Slot:=⟨.i0,.i7,.i7⟩
abbrev s100:Slot:=⟨.i1,.i0,.i0⟩
abbrev s101:Slot:=⟨.i1,.i0,.i1⟩
abbrev s102:Slot:=⟨.i1,.i0,.i2⟩
abbrev s103:Slot:=⟨.i1,.i0,.i3⟩
abbrev s104:Slot:=⟨.i1,.i0,.i4⟩
abbrev s105:Slot:=⟨.i1,.i0,.i5⟩
abbrev s106:Slot:=⟨.i1,.i0,.i6⟩
abbrev s107:Slot:=⟨.i1,.i0,.i7⟩
abbrev s110:Slot:=⟨.i1,.i1,.i0⟩
abbrev s111:Slot:=⟨.i1,.i1,.i1⟩
abbrev s112:Slot:=⟨.i1,.i1,.i2⟩
abbrev s113:Slot:=⟨.i1,.i1,.i3⟩
abbrev s114:Slot:=⟨.i1,.i1,.i4⟩
abbrev s115:Slot:=⟨.i1,.i1,.i5⟩
abbrev s116:Slot:=⟨.i1,.i1,.i6⟩
abbrev s117:Slot:=⟨.i1,.i1,.i7⟩
abbrev s120:Slot:=⟨.i1,.i2,.i0⟩
abbrev s121:Slot:=⟨.i1,.i2,.i1⟩
abbrev s122:Slot:=⟨.i1,.i2,.i2⟩
abbrev s123:Slot:=⟨.i1,.i2,.i3⟩
abbrev s124:Slot:=⟨.i1,.i2,.i4⟩
abbrev s125:Slot:=⟨.i1,.i2,.i5⟩
abbrev s126:Slot:=⟨.i1,.i2,.i6⟩
abbrev s127:Slot:=⟨.i1,.i2,.i7⟩
abbrev s130:Slot:=⟨.i1,.i3,.i0⟩
abbrev s131:Slot:=⟨.i1,.i3,.i1⟩
abbrev s132:Slot:=⟨.i1,.i3,.i2⟩
abbrev s133:Slot:=⟨.i1,.i3,.i3⟩
abbrev s134:Slot:=⟨.i1,.i3,.i4⟩
abbrev s135:Slot:=⟨.i1,.i3,.i5⟩
abbrev s136:Slot:=⟨.i1,.i3,.i6⟩
abbrev s137:Slot:=⟨.i1,.i3,.i7⟩
abbrev s140:Slot:=⟨.i1,.i4,.i0⟩
abbrev s141:Slot:=⟨.i1,.i4,.i1⟩
abbrev s142:Slot:=⟨.i1,.i4,.i2⟩
abbrev s143:Slot:=⟨.i1,.i4,.i3⟩
abbrev s144:Slot:=⟨.i1,.i4,.i4⟩
abbrev s145:Slot:=⟨.i1,.i4,.i5⟩
abbrev s146:Slot:=⟨.i1,.i4,.i6⟩
abbrev s147:Slot:=⟨.i1,.i4,.i7⟩
abbrev s150:Slot:=⟨.i1,.i5,.i0⟩
abbrev s151:Slot:=⟨.i1,.i5,.i1⟩
abbrev s152:Slot:=⟨.i1,.i5,.i2⟩
abbrev s153:Slot:=⟨.i1,.i5,.i3⟩
abbrev s154:Slot:=⟨.i1,.i5,.i4⟩
abbrev s155:Slot:=⟨.i1,.i5,.i5⟩
abbrev s156:Slot:=⟨.i1,.i5,.i6⟩
abbrev s157:Slot:=⟨.i1,.i5,.i7⟩
abbrev s160:Slot:=⟨.i1,.i6,.i0⟩
abbrev s161:Slot:=⟨.i1,.i6,.i1⟩
abbrev s162:Slot:=⟨.i1,.i6,.i2⟩
abbrev s163:Slot:=⟨.i1,.i6,.i3⟩
abbrev s164:Slot:=⟨.i1,.i6,.i4⟩
abbrev s165:Slot:=⟨.i1,.i6,.i5⟩
abbrev s166:Slot:=⟨.i1,.i6,.i6⟩
abbrev s167:Slot:=⟨.i1,.i6,.i7⟩
abbrev s170:Slot:=⟨.i1,.i7,.i0⟩
abbrev s171:Slot:=⟨.i1,.i7,.i1⟩
abbrev s172:Slot:=⟨.i1,.i7,.i2⟩
abbrev s173:Slot:=⟨.i1,.i7,.i3⟩
abbrev s174:Slot:=⟨.i1,.i7,.i4⟩
abbrev s175:Slot:=⟨.i1,.i7,.i5⟩
abbrev s176:Slot:=⟨.i1,.i7,.i6⟩
abbrev s177:Slot:=⟨.i1,.i7,.i7⟩
abbrev s200:Slot:=⟨.i2,.i0,.i0⟩
abbrev s201:Slot:=⟨.i2,.i0,.i1⟩
abbrev s202:Slot:=⟨.i2,.i0,.i2⟩
abbrev s203:Slot:=⟨.i2,.i0,.i3⟩
abbrev s204:Slot:=⟨.i2,.i0,.i4⟩
abbrev s205:Slot:=⟨.i2,.i0,.i5⟩
abbrev s206:Slot:=⟨.i2,.i0,.i6⟩
abbrev s207:Slot:=⟨.i2,.i0,.i7⟩
abbrev s210:Slot:=⟨.i2,.i1,.i0⟩
abbrev s211:Slot:=⟨.i2,.i1,.i1⟩
abbrev s212:Slot:=⟨.i2,.i1,.i2⟩
abbrev s213:Slot:=⟨.i2,.i1,.i3⟩
abbrev s214:Slot:=⟨.i2,.i1,.i4⟩
abbrev s215:Slot:=⟨.i2,.i1,.i5⟩
abbrev s216:Slot:=⟨.i2,.i1,.i6⟩
abbrev s217:Slot:=⟨.i2,.i1,.i7⟩
abbrev s220:Slot:=⟨.i2,.i2,.i0⟩
abbrev s221:Slot:=⟨.i2,.i2,.i1⟩
abbrev s222:Slot:=⟨.i2,.i2,.i2⟩
abbrev s223:Slot:=⟨.i2,.i2,.i3⟩
abbrev s224:Slot:=⟨.i2,.i2,.i4⟩
abbrev s225:Slot:=⟨.i2,.i2,.i5⟩
abbrev s226:Slot:=⟨.i2,.i2,.i6⟩
abbrev s227:Slot:=⟨.i2,.i2,.i7⟩
abbrev s230:Slot:=⟨.i2,.i3,.i0⟩
abbrev s231:Slot:=⟨.i2,.i3,.i1⟩
abbrev s232:Slot:=⟨.i2,.i3,.i2⟩
abbrev s233:Slot:=⟨.i2,.i3,.i3⟩
abbrev s234:Slot:=⟨.i2,.i3,.i4⟩
abbrev s235:Slot:=⟨.i2,.i3,.i5⟩
abbrev s236:Slot:=⟨.i2,.i3,.i6⟩
abbrev s237:Slot:=⟨.i2,.i3,.i7⟩
abbrev s240:Slot:=⟨.i2,.i4,.i0⟩
abbrev s241:Slot:=⟨.i2,.i4,.i1⟩
abbrev s242:Slot:=⟨.i2,.i4,.i2⟩
abbrev s243:Slot:=⟨.i2,.i4,.i3⟩
abbrev s244:Slot:=⟨.i2,.i4,.i4⟩
abbrev s245:Slot:=⟨.i2,.i4,.i5⟩
abbrev s246:Slot:=⟨.i2,.i4,.i6⟩
abbrev s247:Slot:=⟨.i2,.i4,.i7⟩
abbrev s250:Slot:=⟨.i2,.i5,.i0⟩
abbrev s251:Slot:=⟨.i2,.i5,.i1⟩
abbrev s252:Slot:=⟨.i2,.i5,.i2⟩
abbrev s253:Slot:=⟨.i2,.i5,.i3⟩
abbrev s254:Slot:=⟨.i2,.i5,.i4⟩
abbrev s255:Slot:=⟨.i2,.i5,.i5⟩
abbrev s256:Slot:=⟨.i2,.i5,.i6⟩
abbrev s257:Slot:=⟨.i2,.i5,.i7⟩
abbrev s260:Slot:=⟨.i2,.i6,.i0⟩
abbrev s261:Slot:=⟨.i2,.i6,.i1⟩
abbrev s262:Slot:=⟨.i2,.i6,.i2⟩
abbrev s263:Slot:=⟨.i2,.i6,.i3⟩
abbrev s264:Slot:=⟨.i2,.i6,.i4⟩
abbrev s265:Slot:=⟨.i2,.i6,.i5⟩
abbrev s266:Slot:=⟨.i2,.i6,.i6⟩
abbrev s267:Slot:=⟨.i2,.i6,.i7⟩
abbrev s270:Slot:=⟨.i2,.i7,.i0⟩
abbrev s271:Slot:=⟨.i2,.i7,.i1⟩
abbrev s272:Slot:=⟨.i2,.i7,.i2⟩
abbrev s273:Slot:=⟨.i2,.i7,.i3⟩
abbrev s274:Slot:=⟨.i2,.i7,.i4⟩
abbrev s275:Slot:=⟨.i2,.i7,.i5⟩
abbrev s276:Slot:=⟨.i2,.i7,.i6⟩
abbrev s277:Slot:=⟨.i2,.i7,.i7⟩
abbrev s300:Slot:=⟨.i3,.i0,.i0⟩
abbrev s301:Slot:=⟨.i3,.i0,.i1⟩
abbrev s302:Slot:=⟨.i3,.i0,.i2⟩
abbrev s303:Slot:=⟨.i3,.i0,.i3⟩
abbrev s304:Slot:=⟨.i3,.i0,.i4⟩
abbrev s305:Slot:=⟨.i3,.i0,.i5⟩
abbrev s306:Slot:=⟨.i3,.i0,.i6⟩
abbrev s307:Slot:=⟨.i3,.i0,.i7⟩
abbrev s310:Slot:=⟨.i3,.i1,.i0⟩
abbrev s311:Slot:=⟨.i3,.i1,.i1⟩
abbrev s312:Slot:=⟨.i3,.i1,.i2⟩
abbrev s313:Slot:=⟨.i3,.i1,.i3⟩
abbrev s314:Slot:=⟨.i3,.i1,.i4⟩
abbrev s315:Slot:=⟨.i3,.i1,.i5⟩
abbrev s316:Slot:=⟨.i3,.i1,.i6⟩
abbrev s317:Slot:=⟨.i3,.i1,.i7⟩
abbrev s320:Slot:=⟨.i3,.i2,.i0⟩
abbrev s321:Slot:=⟨.i3,.i2,.i1⟩
abbrev s322:Slot:=⟨.i3,.i2,.i2⟩
abbrev nR:Arg:=.s s000
abbrev pY:Arg:=.s s001
abbrev FC:Arg:=.s s002
abbrev lA:Arg:=.s s003
abbrev kM:Arg:=.s s004
abbrev fL:Arg:=.s s005
abbrev ju:Arg:=.s s006
abbrev gv:Arg:=.s s007
abbrev mC:Arg:=.s s010
abbrev mD:Arg:=.s s011
abbrev Aa:Arg:=.s s012
abbrev rC:Arg:=.s s013
abbrev rD:Arg:=.s s014
abbrev vE:Arg:=.s s015
abbrev sO:Arg:=.s s016
abbrev pZ:Arg:=.s s017
abbrev qa:Arg:=.s s020
abbrev qz:Arg:=.s s021
abbrev Ab:Arg:=.s s022
abbrev Ac:Arg:=.s s023
abbrev Ad:Arg:=.s s024
abbrev Ae:Arg:=.s s025
abbrev Af:Arg:=.s s026
abbrev Ag:Arg:=.s s027
abbrev Ah:Arg:=.s s030
abbrev Ai:Arg:=.s s031
abbrev xQ:Arg:=.s s032
abbrev Cj:Arg:=.s s033
abbrev FD:Arg:=.s s034
abbrev JV:Arg:=.s s035
abbrev L6:Arg:=.s s036
abbrev L7:Arg:=.s s037
abbrev L8:Arg:=.s s040
abbrev L9:Arg:=.s s041
abbrev Rc:Arg:=.s s042
abbrev FE:Arg:=.s s043
abbrev Re:Arg:=.s s044
abbrev Rf:Arg:=.s s045
abbrev Rg:Arg:=.s s046
abbrev Rh:Arg:=.s s047
abbrev Ri:Arg:=.s s050
abbrev Rj:Arg:=.s s051
abbrev Rk:Arg:=.s s052
abbrev Rl:Arg:=.s s053
abbrev Rm:Arg:=.s s054
abbrev Rn:Arg:=.s s055
abbrev Ro:Arg:=.s s056
abbrev Rp:Arg:=.s s057
abbrev Rq:Arg:=.s s060
abbrev Rr:Arg:=.s s061
abbrev Rs:Arg:=.s s062
abbrev Rt:Arg:=.s s063
abbrev Ru:Arg:=.s s064
abbrev Rv:Arg:=.s s065
abbrev Rw:Arg:=.s s066
abbrev Rx:Arg:=.s s067
abbrev Ry:Arg:=.s s070
abbrev Rz:Arg:=.s s071
abbrev RA:Arg:=.s s072
abbrev RD:Arg:=.s s073
abbrev RE:Arg:=.s s074
abbrev RG:Arg:=.s s075
abbrev RH:Arg:=.s s076
abbrev RJ:Arg:=.s s077
abbrev RK:Arg:=.s s100
abbrev RL:Arg:=.s s101
abbrev RM:Arg:=.s s102
abbrev RN:Arg:=.s s103
abbrev VU:Arg:=.s s104
abbrev a105:Arg:=.s s105
abbrev VV:Arg:=.s s106
abbrev a107:Arg:=.s s107
abbrev Z6:Arg:=.s s110
abbrev Z7:Arg:=.s s111
abbrev Z8:Arg:=.s s112
abbrev Z9:Arg:=.s s113
abbrev aaa:Arg:=.s s114
abbrev aab:Arg:=.s s115
abbrev a116:Arg:=.s s116
abbrev a117:Arg:=.s s117
abbrev aac:Arg:=.s s120
abbrev aad:Arg:=.s s121
abbrev aae:Arg:=.s s122
abbrev aaf:Arg:=.s s123
abbrev a124:Arg:=.s s124
abbrev acX:Arg:=.s s125
abbrev acY:Arg:=.s s126
abbrev a127:Arg:=.s s127
abbrev a130:Arg:=.s s130
abbrev a131:Arg:=.s s131
abbrev acZ:Arg:=.s s132
abbrev ac0:Arg:=.s s133
abbrev ac1:Arg:=.s s134
abbrev ac2:Arg:=.s s135
abbrev ac3:Arg:=.s s136
abbrev ac4:Arg:=.s s137
abbrev ac5:Arg:=.s s140
abbrev a141:Arg:=.s s141
abbrev ac6:Arg:=.s s142
abbrev a143:Arg:=.s s143
abbrev ac7:Arg:=.s s144
abbrev a145:Arg:=.s s145
abbrev a146:Arg:=.s s146
abbrev aag:Arg:=.s s147
abbrev ac8:Arg:=.s s150
abbrev ac9:Arg:=.s s151
abbrev a152:Arg:=.s s152
abbrev ada:Arg:=.s s153
abbrev a154:Arg:=.s s154
abbrev adb:Arg:=.s s155
abbrev a156:Arg:=.s s156
abbrev a157:Arg:=.s s157
abbrev a160:Arg:=.s s160
abbrev ade:Arg:=.s s161
abbrev a162:Arg:=.s s162
abbrev adf:Arg:=.s s163
abbrev a164:Arg:=.s s164
abbrev adg:Arg:=.s s165
abbrev adh:Arg:=.s s166
abbrev a167:Arg:=.s s167
abbrev adi:Arg:=.s s170
abbrev a171:Arg:=.s s171
abbrev adj:Arg:=.s s172
abbrev a173:Arg:=.s s173
abbrev adk:Arg:=.s s174
abbrev a175:Arg:=.s s175
abbrev adl:Arg:=.s s176
abbrev adm:Arg:=.s s177
abbrev adn:Arg:=.s s200
abbrev a201:Arg:=.s s201
abbrev ado:Arg:=.s s202
abbrev a203:Arg:=.s s203
abbrev adp:Arg:=.s s204
abbrev adq:Arg:=.s s205
abbrev a206:Arg:=.s s206
abbrev adr:Arg:=.s s207
abbrev a210:Arg:=.s s210
abbrev ads:Arg:=.s s211
abbrev a212:Arg:=.s s212
abbrev a213:Arg:=.s s213
abbrev adt:Arg:=.s s214
abbrev adu:Arg:=.s s215
abbrev adw:Arg:=.s s216
abbrev adx:Arg:=.s s217
abbrev ady:Arg:=.s s220
abbrev adz:Arg:=.s s221
abbrev a222:Arg:=.s s222
abbrev adA:Arg:=.s s223
abbrev adB:Arg:=.s s224
abbrev adD:Arg:=.s s225
abbrev a226:Arg:=.s s226
abbrev a227:Arg:=.s s227
abbrev adE:Arg:=.s s230
abbrev adF:Arg:=.s s231
abbrev a232:Arg:=.s s232
abbrev a233:Arg:=.s s233
abbrev a234:Arg:=.s s234
abbrev adG:Arg:=.s s235
abbrev a236:Arg:=.s s236
abbrev adH:Arg:=.s s237
abbrev adI:Arg:=.s s240
abbrev adJ:Arg:=.s s241
abbrev adK:Arg:=.s s242
abbrev adL:Arg:=.s s243
abbrev adM:Arg:=.s s244
abbrev adN:Arg:=.s s245
abbrev adO:Arg:=.s s246
abbrev adP:Arg:=.s s247
abbrev adQ:Arg:=.s s250
abbrev adR:Arg:=.s s251
abbrev adS:Arg:=.s s252
abbrev adT:Arg:=.s s253
abbrev adU:Arg:=.s s254
abbrev adW:Arg:=.s s255
abbrev adX:Arg:=.s s256
abbrev adY:Arg:=.s s257
abbrev adZ:Arg:=.s s260
abbrev ad0:Arg:=.s s261
abbrev ad1:Arg:=.s s262
abbrev ad2:Arg:=.s s263
abbrev ad4:Arg:=.s s264
abbrev ad5:Arg:=.s s265
abbrev ad6:Arg:=.s s266
abbrev ad7:Arg:=.s s267
abbrev ad8:Arg:=.s s270
abbrev ad9:Arg:=.s s271
abbrev aea:Arg:=.s s272
abbrev aeb:Arg:=.s s273
abbrev aec:Arg:=.s s274
abbrev aed:Arg:=.s s275
abbrev aee:Arg:=.s s276
abbrev aef:Arg:=.s s277
abbrev aeg:Arg:=.s s300
abbrev aeh:Arg:=.s s301
abbrev aei:Arg:=.s s302
abbrev aej:Arg:=.s s303
abbrev aek:Arg:=.s s304
abbrev ael:Arg:=.s s305
abbrev aem:Arg:=.s s306
abbrev aen:Arg:=.s s307
abbrev aeo:Arg:=.s s310
abbrev aep:Arg:=.s s311
abbrev aeq:Arg:=.s s312
abbrev aer:Arg:=.s s313
abbrev aes:Arg:=.s s314
abbrev aet:Arg:=.s s315
abbrev aeu:Arg:=.s s316
abbrev aev:Arg:=.s s317
abbrev aew:Arg:=.s s320
abbrev aex:Arg:=.s s321
abbrev aey:Arg:=.s s322
abbrev agA:Option Slot:=some s000
abbrev aeU:Option Slot:=some s001
abbrev rQ:Option Slot:=some s002
abbrev vX:Option Slot:=some s003
abbrev kN:Option Slot:=some s004
abbrev nF:Option Slot:=some s005
abbrev AE:Option Slot:=some s006
abbrev xW:Option Slot:=some s007
abbrev qD:Option Slot:=some s010
abbrev vY:Option Slot:=some s011
abbrev AF:Option Slot:=some s012
abbrev xX:Option Slot:=some s013
abbrev AG:Option Slot:=some s014
abbrev AH:Option Slot:=some s015
abbrev xY:Option Slot:=some s016
abbrev xZ:Option Slot:=some s017
abbrev AI:Option Slot:=some s020
abbrev x9:Option Slot:=some s021
abbrev CX:Option Slot:=some s022
abbrev AJ:Option Slot:=some s023
abbrev AK:Option Slot:=some s024
abbrev AL:Option Slot:=some s025
abbrev AM:Option Slot:=some s026
abbrev AN:Option Slot:=some s027
abbrev AO:Option Slot:=some s030
abbrev AP:Option Slot:=some s031
abbrev F5:Option Slot:=some s032
abbrev F6:Option Slot:=some s033
abbrev F7:Option Slot:=some s034
abbrev J8:Option Slot:=some s035
abbrev MY:Option Slot:=some s036
abbrev MZ:Option Slot:=some s037
abbrev M1:Option Slot:=some s040
abbrev Sr:Option Slot:=some s041
abbrev Ss:Option Slot:=some s042
abbrev M8:Option Slot:=some s043
abbrev St:Option Slot:=some s044
abbrev Su:Option Slot:=some s045
abbrev Sv:Option Slot:=some s046
abbrev Sw:Option Slot:=some s047
abbrev Sx:Option Slot:=some s050
abbrev Sy:Option Slot:=some s051
abbrev Sz:Option Slot:=some s052
abbrev SA:Option Slot:=some s053
abbrev SB:Option Slot:=some s054
abbrev SC:Option Slot:=some s055
abbrev SD:Option Slot:=some s056
abbrev SE:Option Slot:=some s057
abbrev SF:Option Slot:=some s060
abbrev SG:Option Slot:=some s061
abbrev SH:Option Slot:=some s062
abbrev SI:Option Slot:=some s063
abbrev SK:Option Slot:=some s064
abbrev SL:Option Slot:=some s065
abbrev SM:Option Slot:=some s066
abbrev SN:Option Slot:=some s067
abbrev SO:Option Slot:=some s070
abbrev SP:Option Slot:=some s071
abbrev SQ:Option Slot:=some s072
abbrev SR:Option Slot:=some s073
abbrev SS:Option Slot:=some s074
abbrev SU:Option Slot:=some s075
abbrev SV:Option Slot:=some s076
abbrev SW:Option Slot:=some s077
abbrev d100:Option Slot:=some s100
abbrev d101:Option Slot:=some s101
abbrev d102:Option Slot:=some s102
abbrev d103:Option Slot:=some s103
abbrev d104:Option Slot:=some s104
abbrev d105:Option Slot:=some s105
abbrev d106:Option Slot:=some s106
abbrev d107:Option Slot:=some s107
abbrev d110:Option Slot:=some s110
abbrev d111:Option Slot:=some s111
abbrev d112:Option Slot:=some s112
abbrev d113:Option Slot:=some s113
abbrev d114:Option Slot:=some s114
abbrev d115:Option Slot:=some s115
abbrev d116:Option Slot:=some s116
abbrev d117:Option Slot:=some s117
abbrev d120:Option Slot:=some s120
abbrev d121:Option Slot:=some s121
abbrev d122:Option Slot:=some s122
abbrev d123:Option Slot:=some s123
abbrev d124:Option Slot:=some s124
abbrev d125:Option Slot:=some s125
abbrev d126:Option Slot:=some s126
abbrev d127:Option Slot:=some s127
abbrev d130:Option Slot:=some s130
abbrev d131:Option Slot:=some s131
abbrev d132:Option Slot:=some s132
abbrev d133:Option Slot:=some s133
abbrev d134:Option Slot:=some s134
abbrev d135:Option Slot:=some s135
abbrev d136:Option Slot:=some s136
abbrev d137:Option Slot:=some s137
abbrev d140:Option Slot:=some s140
abbrev d141:Option Slot:=some s141
abbrev d142:Option Slot:=some s142
abbrev d143:Option Slot:=some s143
abbrev d144:Option Slot:=some s144
abbrev d145:Option Slot:=some s145
abbrev d146:Option Slot:=some s146
abbrev d147:Option Slot:=some s147
abbrev d150:Option Slot:=some s150
abbrev d151:Option Slot:=some s151
abbrev d152:Option Slot:=some s152
abbrev d153:Option Slot:=some s153
abbrev d154:Option Slot:=some s154
abbrev d155:Option Slot:=some s155
abbrev d156:Option Slot:=some s156
abbrev d157:Option Slot:=some s157
abbrev d160:Option Slot:=some s160
abbrev d161:Option Slot:=some s161
abbrev d162:Option Slot:=some s162
abbrev d163:Option Slot:=some s163
abbrev d164:Option Slot:=some s164
abbrev d165:Option Slot:=some s165
abbrev d166:Option Slot:=some s166
abbrev d167:Option Slot:=some s167
abbrev d170:Option Slot:=some s170
abbrev d171:Option Slot:=some s171
abbrev d172:Option Slot:=some s172
abbrev d173:Option Slot:=some s173
abbrev d174:Option Slot:=some s174
abbrev d175:Option Slot:=some s175
abbrev d176:Option Slot:=some s176
abbrev d177:Option Slot:=some s177
abbrev d200:Option Slot:=some s200
abbrev d201:Option Slot:=some s201
abbrev d202:Option Slot:=some s202
abbrev d203:Option Slot:=some s203
abbrev d204:Option Slot:=some s204
abbrev d205:Option Slot:=some s205
abbrev d206:Option Slot:=some s206
abbrev d207:Option Slot:=some s207
abbrev d210:Option Slot:=some s210
abbrev d211:Option Slot:=some s211
abbrev d212:Option Slot:=some s212
abbrev d213:Option Slot:=some s213
abbrev d214:Option Slot:=some s214
abbrev d215:Option Slot:=some s215
abbrev d216:Option Slot:=some s216
abbrev d217:Option Slot:=some s217
abbrev d220:Option Slot:=some s220
abbrev d221:Option Slot:=some s221
abbrev d222:Option Slot:=some s222
abbrev d223:Option Slot:=some s223
abbrev d224:Option Slot:=some s224
abbrev d225:Option Slot:=some s225
abbrev d226:Option Slot:=some s226
abbrev d227:Option Slot:=some s227
abbrev d230:Option Slot:=some s230
abbrev d231:Option Slot:=some s231
abbrev d232:Option Slot:=some s232
abbrev d233:Option Slot:=some s233
abbrev d234:Option Slot:=some s234
abbrev d235:Option Slot:=some s235
abbrev d236:Option Slot:=some s236
abbrev d237:Option Slot:=some s237
abbrev d240:Option Slot:=some s240
abbrev d241:Option Slot:=some s241
abbrev d242:Option Slot:=some s242
abbrev d243:Option Slot:=some s243
abbrev d244:Option Slot:=some s244
abbrev d245:Option Slot:=some s245
abbrev d246:Option Slot:=some s246
abbrev d247:Option Slot:=some s247
abbrev d250:Option Slot:=some s250
abbrev d251:Option Slot:=some s251
abbrev d252:Option Slot:=some s252
abbrev d253:Option Slot:=some s253
abbrev d254:Option Slot:=some s254
abbrev d255:Option Slot:=some s255
abbrev d256:Option Slot:=some s256
abbrev d257:Option Slot:=some s257
abbrev d260:Option Slot:=some s260
abbrev d261:Option Slot:=some s261
abbrev d262:Option Slot:=some s262
abbrev d263:Option Slot:=some s263
abbrev d264:Option Slot:=some s264
abbrev d265:Option Slot:=some s265
abbrev d266:Option Slot:=some s266
abbrev d267:Option Slot:=some s267
abbrev d270:Option Slot:=some s270
abbrev d271:Option Slot:=some s271
abbrev d272:Option Slot:=some s272
abbrev d273:Option Slot:=some s273
abbrev d274:Option Slot:=some s274
abbrev d275:Option Slot:=some s275
abbrev d276:Option Slot:=some s276
abbrev d277:Option Slot:=some s277
abbrev d300:Option Slot:=some s300
abbrev d301:Option Slot:=some s301
abbrev d302:Option Slot:=some s302
abbrev d303:Option Slot:=some s303
abbrev d304:Option Slot:=some s304
abbrev d305:Option Slot:=some s305
abbrev d306:Option Slot:=some s306
abbrev d307:Option Slot:=some s307
abbrev d310:Option Slot:=some s310
abbrev d311:Option Slot:=some s311
abbrev d312:Option Slot:=some s312
abbrev d313:Option Slot:=some s313
abbrev d314:Option Slot:=some s314
abbrev d315:Option Slot:=some s315
abbrev d316:Option Slot:=some s316
abbrev d317:Option Slot:=some s317
abbrev d320:Option Slot:=some s320
abbrev d321:Option Slot:=some s321
abbrev d322:Option Slot:=some s322
def Cv:ai:=(.seq (sR [oM SU rC,oM SV Aa,oP SW (lt3 RG RH)] (.cond RJ .skip (.exit 2))) (.seq (.block 3 (.seq (.nG [oM d102 rC,oF d103 3 gv,oL d104 RN,oP d105 (.dL VU),oP d106 (lt3 RM a105),oM d107 VV,⟨0,d110,(gF .i1 .i0 .i7),0,(.iV ju)⟩,⟨0,d111,(gF .i1 .i0 .i7),0,(.iV rC)⟩,⟨0,d112,(gF .i1 .i0 .i7),0,(.tq 2 Z6 Z7)⟩,⟨0,d113,(gF .i1 .i0 .i7),0,(.lY 0 Z8)⟩,⟨0,d114,(gF .i1 .i0 .i7),1,(.cS Z9)⟩,⟨0,d115,(gF .i1 .i0 .i7),0,(.lY 0 mD)⟩,⟨0,d116,(gF .i1 .i0 .i7),1,(.cS aab)⟩,⟨0,d117,(gF .i1 .i0 .i7),0,(.cmp 7 (.le 0 18446744073709551616) aaa a116)⟩,⟨0,d120,(gF .i1 .i0 .i7),0,(.iV a117)⟩,⟨0,d121,(gT .i1 .i2 .i0),0,(.iV fL)⟩,⟨0,d122,(gT .i1 .i2 .i0),0,(.call 16 [aad])⟩,⟨0,d123,(gT .i1 .i2 .i0),0,(.dL aae)⟩,⟨0,d124,(gT .i1 .i2 .i0),0,(.iV rC)⟩,⟨0,d125,(gT .i1 .i2 .i0),0,(gt3 aaf a124)⟩,⟨0,d126,(gF .i1 .i0 .i7),0,(.pick aac acX (.c (.bool false)))⟩,oP d127 (.pick a107 (.c (.bool true)) acY)]) (.cond a127 (.nG [oF d130 3 mD,⟨0,d131,none,1,(.cS a130)⟩,oM d132 ju,oM d133 rC,oP d134 (.tq 2 acZ ac0),⟨0,d135,none,1,(.dx 2 ac1)⟩,⟨0,d136,none,1,(.jP false 1 [(.int 7 0),(.int 7 0)] [⟨0,⟨2,ac2⟩⟩])⟩,oP d137 (.app false 2 a131 ac3),oF d140 3 mD,oP none (.eX ac5 ac4)]) .skip))) (.uu [oM d100 rC,oP d101 (ad3 RK (kI 3 1)),oM xX RL])))
def J4:ai:=(.seq (sR [oM d170 qa,oF d171 3 gv,oL d172 a171,oP d173 (.dL adj),oP d174 (lt3 adi a173),oM d175 adk,⟨0,d176,(gT .i1 .i7 .i5),0,(.iV qa)⟩,⟨0,d177,(gT .i1 .i7 .i5),0,(.iV rD)⟩,⟨0,d200,(gT .i1 .i7 .i5),0,(.dL adm)⟩,⟨0,d201,(gT .i1 .i7 .i5),0,(lt3 adl adn)⟩,oP d202 (.pick a175 a201 (.c (.bool false)))] (.cond ado .skip (.exit 4))) (.seq (.block 5 (.seq (.nG [oM d205 rD,oM d206 qa,oP d207 (.tq 2 adq a206),⟨0,d210,none,1,(.dx 2 adr)⟩,oF d211 3 gv,⟨0,d212,none,1,(.cS ads)⟩,oM d213 qa,oP d214 (.tq 2 a212 a213),⟨0,d215,none,1,(.dx 2 adt)⟩,oP d216 (.kX [1,1] false a210 adu),oM d217 adw,⟨0,d220,(gT .i2 .i1 .i7),0,(.iV qa)⟩,⟨0,d221,(gT .i2 .i1 .i7),0,(.iV pZ)⟩,⟨0,d222,(gT .i2 .i1 .i7),0,(.dL adz)⟩,⟨0,d223,(gT .i2 .i1 .i7),0,(.cmp 3 (.ge 9223372036854775808 18446744073709551616) ady a222)⟩,⟨0,d224,(gT .i2 .i1 .i7),0,(.iV adA)⟩,⟨0,d225,(gF .i2 .i2 .i4),0,(.iV pZ)⟩,⟨0,d226,(gF .i2 .i2 .i4),0,(.iV qa)⟩,⟨0,d227,(gF .i2 .i2 .i4),0,(.tq 2 adD a226)⟩,⟨0,d230,(gF .i2 .i2 .i4),1,(.dx 2 a227)⟩,⟨0,d231,(gF .i2 .i2 .i4),0,(.lY 3 gv)⟩,⟨0,d232,(gF .i2 .i2 .i4),1,(.cS adF)⟩,⟨0,d233,(gF .i2 .i2 .i4),0,(.iV qa)⟩,⟨0,d234,(gF .i2 .i2 .i4),0,(.tq 2 a232 a233)⟩,⟨0,d235,(gF .i2 .i2 .i4),1,(.dx 2 a234)⟩,⟨0,d236,(gF .i2 .i2 .i4),0,(.kX [1,1] true adE adG)⟩,⟨0,d237,(gT .i2 .i1 .i7),0,(.pick adB (.c (.bool true)) a236)⟩,oP d240 (.pick adx adH (.c (.bool false)))]) (.cond adI (sR [oP kN (.iV (.c (.bool false)))] .ret) .skip))) (.uu [oM d203 qa,oP d204 (ad3 a203 (kI 3 1)),oM AI adp])))
def Mu:ai:=(.seq (sR [oM d243 qz,oM d244 rD,oP d245 (.dL adM),oP d246 (lt3 adL adN)] (.cond adO .skip (.exit 6))) (.seq (.block 7 (.seq (.nG [oM d251 qz,oF d252 3 gv,oL d253 adS,oP d254 (.dL adT),oP d255 (lt3 adR adU),oM d256 adW,⟨0,d257,(gT .i2 .i5 .i6),0,(.iV rD)⟩,⟨0,d260,(gT .i2 .i5 .i6),0,(.iV qz)⟩,⟨0,d261,(gT .i2 .i5 .i6),0,(.tq 2 adY adZ)⟩,⟨0,d262,(gT .i2 .i5 .i6),1,(.dx 2 ad0)⟩,⟨0,d263,(gT .i2 .i5 .i6),0,(.lY 3 gv)⟩,⟨0,d264,(gT .i2 .i5 .i6),1,(.cS ad2)⟩,⟨0,d265,(gT .i2 .i5 .i6),0,(.iV qz)⟩,⟨0,d266,(gT .i2 .i5 .i6),0,(.tq 2 ad4 ad5)⟩,⟨0,d267,(gT .i2 .i5 .i6),1,(.dx 2 ad6)⟩,⟨0,d270,(gT .i2 .i5 .i6),0,(.kX [1,1] false ad1 ad7)⟩,oP d271 (.pick adX ad8 (.c (.bool false)))]) (.cond ad9 (sR [oP kN (.iV (.c (.bool false)))] .ret) .skip))) (.uu [oM d247 qz,oP d250 (ad3 adP (kI 3 1)),oM x9 adQ])))
def nY:ai:=(.seq (sR [oM F5 mC,oM F6 pY,oP F7 (.dL Cj),oP J8 (lt3 xQ FD),oM MY JV,⟨0,MZ,(gT .i0 .i3 .i6),0,(.iV mC)⟩,⟨0,M1,(gT .i0 .i3 .i6),0,(lt3 L7 (kI 3 10))⟩,oP Sr (.pick L6 L8 (.c (.bool false)))] (.cond L9 .skip (.exit 0))) (.seq (.block 1 (.seq (.nG [oF St 0 gv,⟨0,Su,none,1,(.cS Re)⟩,oM Sv pY,oM Sw mC,oP Sx (.tq 2 Rg Rh),oP Sy (.ZV 2 1 Ri (kI 3 1)),⟨0,Sz,none,1,(.cS Rj)⟩,oP SA (.bin 4 4 (.rem 256) Rk (kI 4 2)),oP SB (.qi 4 7 0 18446744073709551616 Rl),oP SC (.bin 7 7 (.add 18446744073709551616) Rf Rm),oP SD (.build [(.int 7 0),(.int 3 0),(.bool false),.aB] [⟨0,⟨1,Rn⟩⟩]),⟨0,vY,none,1,(.oT [(.int 7 0),(.int 3 0),(.bool false),.aB])⟩,oP none (.gX 4 mD Ro)]) (.seq (.nG [oF SE 3 gv,⟨0,SF,none,1,(.cS Rp)⟩,⟨0,SG,none,1,(.dL Rq)⟩,oM SH pY,oM SI mC,oP SK (.tq 2 Rs Rt),oP SL (.ZV 2 1 Ru (kI 3 0)),⟨0,SM,none,1,(.cS Rv)⟩,oP SN (.qi 4 3 0 18446744073709551616 Rw),oP SO (.bin 3 3 (.rem 9223372036854775808) Rx (kI 3 11)),oM SP ju,⟨0,SQ,none,1,(.dL Rz)⟩,⟨0,SR,none,1,(.mm 3 9223372036854775808 18446744073709551616 false Ry RA)⟩,oP SS (.mm 3 9223372036854775808 18446744073709551616 true Rr RD),oM AF RE]) (.seq (sR [oM xX (kI 3 0)] (.block 2 (.loop Cv))) (sR [oF d141 3 mD,oL d142 a141,oP d143 (.dL ac6),oF d144 1 mD,oP none (.eX ac7 a143)] (sR [oM d145 fL,oC d146 16 [a145],oM AG a146] (sR [oM d150 fL,oP d151 (.dx 4 gv),oP d152 (.dx 4 mD),oP d153 (.build [(.int 3 0),(.int 7 0),(.int 3 0),(.int 7 0),.aB,(.int 3 0),(.bool false),(.int 3 0),(.int 3 0),(.int 7 0),(.int 3 0),(.bool false),.aB,(.int 3 0),(.int 7 0),(.int 7 0),(.int 7 0),(.int 7 0),(.int 3 0),(.int 7 0),(.int 7 0),(.int 7 0),(.int 7 0),(.int 3 0),(.int 3 0),.aB] [⟨0,⟨1,(kI 3 7)⟩⟩,⟨9,⟨4,a152⟩⟩]),oC d154 18 [ac8,ac9,ada],oM d147 a154,oX d155 aag 0,oX d156 aag 1,oP AH (.oT [(.int 7 0),(.int 3 0),(.bool false),.aB]),oP none (.gX 4 vE adb),oM xY a156] (.seq (sR [oM d157 sO,oP d160 (ne3 a157 (kI 3 0)),oM d161 a160,⟨0,d162,(gT .i1 .i6 .i1),0,(.iV sO)⟩,⟨0,d163,(gT .i1 .i6 .i1),0,(ne3 a162 (kI 3 2))⟩,oP d164 (.pick ade adf (.c (.bool false)))] (.cond a164 (sR [oP kN (.iV (.c (.bool false)))] .ret) .skip)) (sR [oP d165 (.dx 4 vE),oP none (.gX 4 gv adg)] (sR [oM d166 fL,oC d167 16 [adh],oM xZ a167] (.seq (sR [oM AI (kI 3 0)] (.block 4 (.loop J4))) (.seq (sR [oM d241 pZ,oP d242 (.dL adJ),oM x9 adK] (.block 6 (.loop Mu))) (.seq (.nG [oM d272 pZ,⟨0,d273,none,1,(.dL aea)⟩,oM d274 rD,⟨0,d275,none,1,(.dL aec)⟩,oP d276 (lt3 aeb aed),oM d277 aee,⟨0,d300,(gT .i2 .i7 .i7),0,(.iV rD)⟩,⟨0,d301,(gT .i2 .i7 .i7),0,(.iV pZ)⟩,⟨0,d302,(gT .i2 .i7 .i7),1,(.dL aeh)⟩,⟨0,d303,(gT .i2 .i7 .i7),0,(.tq 2 aeg aei)⟩,⟨0,d304,(gT .i2 .i7 .i7),0,(.lY 0 aej)⟩,⟨0,d305,(gT .i2 .i7 .i7),1,(.cS aek)⟩,⟨0,d306,(gT .i2 .i7 .i7),0,(.lY 0 gv)⟩,⟨0,d307,(gT .i2 .i7 .i7),1,(.cS aem)⟩,⟨0,d310,(gT .i2 .i7 .i7),0,(.cmp 7 (.ge 0 18446744073709551616) ael aen)⟩,oP d311 (.pick aef aeo (.c (.bool false))),oM d312 aep,⟨0,d313,(gT .i3 .i1 .i2),0,(.iV pZ)⟩,⟨0,d314,(gT .i3 .i1 .i2),1,(.dL aer)⟩,⟨0,d315,(gT .i3 .i1 .i2),0,(.lY 3 gv)⟩,⟨0,d316,(gT .i3 .i1 .i2),1,(.cS aet)⟩,⟨0,d317,(gT .i3 .i1 .i2),1,(.dL aeu)⟩,⟨0,d320,(gT .i3 .i1 .i2),0,(.cmp 3 (.ge 9223372036854775808 18446744073709551616) aes aev)⟩,oP d321 (.pick aeq aew (.c (.bool false)))]) (.cond aex (sR [oP kN (.iV (.c (.bool false)))] .ret) .skip)))))))))))))) (.uu [oM Ss mC,oP M8 (ad3 Rc (kI 3 1)),oM qD FE])))
def Sp:ai:=.ret
def So:ai:=(sR [oC d322 14 [],oM kN aey] Sp)
def aaM:ai:=(.seq (sR [oM qD (kI 3 0)] (.block 0 (.loop nY))) So)
def aaL:ai:=(sR [oP AP (.build [(.int 7 0),(.int 3 0),(.bool false),.aB] []),oP xW (.oT [(.int 7 0),(.int 3 0),(.bool false),.aB]),oP none (.gX 4 gv Ai)] aaM)
def aaK:ai:=(sR [oM AN fL,oC AO 16 [Ag],oM AE Ah] aaL)
def Xb:ai:=(.seq (sR [oM AK fL,oP AL (.eqv 1 false Ad (.c .jk))] (.cond Ae (sR [oC AM 14 [],oM kN Af] .ret) .skip)) aaK)
def Xa:ai:=(sR [oM CX nR,oC AJ 12 [Ab],oM nF Ac] Xb)
def c3:ai:=(sR [oP kN (.iV (.c (.bool false)))] Xa)
def C18:=oo (cd 18) (by conv=>lhs;reduce)
def UY:ai:=.ret
def UX:=oA (sp 7 C18) (by conv=>lhs;reduce) UY
def UW:=oA (sp 6 C18) (by conv=>lhs;reduce) UX
def UU:=oA (sp 5 C18) (by conv=>lhs;reduce) UW
def UT:=oA (sp 4 C18) (by conv=>lhs;reduce) UU
def US:=oA (sp 3 C18) (by conv=>lhs;reduce) UT
def UR:=oA (sp 2 C18) (by conv=>lhs;reduce) US
def UQ:=oA (sp 1 C18) (by conv=>lhs;reduce) UR
def c18:=oA (sp 0 C18) (by conv=>lhs;reduce) UQ
def C8:=oo (cd 8) (by conv=>lhs;reduce)
def MR:=oo (lb 0 C8) (by conv=>lhs;reduce)
def c8:=oA (λa=>lm [a] C8) (by conv=>lhs;reduce) MR
def c36:=oo (cd 36) (by conv=>lhs;reduce)
def C37:=oo (cd 37) (by conv=>lhs;reduce)
def Cu:=oo (lb 0 C37) (by conv=>lhs;reduce)
def U6:ai:=.ret
def U5:=oA (sp 7 C37) (by conv=>lhs;reduce) U6
def U4:=oB (λa x=>rp 6 [a] C37 x) (by conv=>lhs;reduce) Cu U5
def U3:=oA (sp 5 C37) (by conv=>lhs;reduce) U4
def U2:=oA (sp 4 C37) (by conv=>lhs;reduce) U3
def U1:=oA (sp 3 C37) (by conv=>lhs;reduce) U2
def U0:=oA (sp 2 C37) (by conv=>lhs;reduce) U1
def UZ:=oA (sp 1 C37) (by conv=>lhs;reduce) U0
def c37:=oA (sp 0 C37) (by conv=>lhs;reduce) UZ
def c20:=oo (cd 20) (by conv=>lhs;reduce)
def c16:=oo (cd 16) (by conv=>lhs;reduce)
def CG:ai:=(.seq (sR [oM AP ju,oM F5 nR,oM F6 fL,oP F7 (.tq 1 xQ Cj),oL J8 FD,oP MY (.dL JV),oP MZ (lt3 Ai L6),oM M1 L7,⟨0,Sr,(gT .i0 .i4 .i0),0,(.iV ju)⟩,⟨0,Ss,(gT .i0 .i4 .i0),0,(lt3 L9 (kI 3 4))⟩,oP M8 (.pick L8 Rc (.c (.bool false)))] (.cond FE .skip (.exit 2))) (.seq (.block 3 (.seq (.nG [oM Sv lA,oM Sw nR,oM Sx fL,oP Sy (.tq 1 Rh Ri),⟨0,Sz,none,1,(.cS Rj)⟩,oM SA ju,oP SB (.tq 1 Rk Rl),⟨0,SC,none,1,(.cS Rm)⟩,oP SD (.qi 4 3 0 18446744073709551616 Rn),oP SE (.bin 3 3 (.rem 9223372036854775808) Ro (kI 3 3)),oM SF nR,oM SG fL,oP SH (.tq 1 Rq Rr),⟨0,SI,none,1,(.cS Rs)⟩,oM SK ju,oP SL (.tq 1 Rt Ru),⟨0,SM,none,1,(.cS Rv)⟩,oP SN (.bin 4 4 (.quo 256) Rw (kI 4 3)),⟨0,SO,none,1,(.call 42 [Rx])⟩,oC SP 40 [Rg,Rp,Ry],oP SQ (ne3 Rz (kI 3 0))]) (.cond RA (sR [oP rQ (.iV (.c .jk))] .ret) .skip))) (.uu [oM St ju,oP Su (ad3 Re (kI 3 1)),oM AE Rf])))
def As:ai:=(.seq (sR [oM xX fL,oM AG nR,oP AH (.dL rD),oP xY (lt3 rC vE),oM xZ sO,⟨0,AI,(gT .i0 .i1 .i7),0,(.iV fL)⟩,⟨0,x9,(gT .i0 .i1 .i7),0,(lt3 qa (kI 3 10))⟩,oP CX (.pick pZ qz (.c (.bool false))),oM AJ Ab,⟨0,AK,(gT .i0 .i2 .i3),0,(.iV lA)⟩,⟨0,AL,(gT .i0 .i2 .i3),0,(.eqv 1 true Ad (.c .jk))⟩,oP AM (.pick Ac Ae (.c (.bool false)))] (.cond Af .skip (.exit 0))) (.seq (.block 1 (.seq (sR [oM AE (kI 3 0)] (.block 2 (.loop CG))) (sR [oM SR lA,oM SS fL,oP SU (.qi 3 7 0 18446744073709551616 RE),oP SV (.bin 7 7 (.quo 18446744073709551616) RG (kI 7 3)),oP SW (.bin 7 7 (.add 18446744073709551616) (kI 7 1) RH),oM d100 fL,oP d101 (.qi 3 7 0 18446744073709551616 RK),oP d102 (.bin 7 7 (.rem 18446744073709551616) RL (kI 7 3)),oP d103 (.bin 7 7 (.add 18446744073709551616) (kI 7 1) RM),oC d104 26 [RJ,RN],oC d105 44 [RD,VU],oP d106 (ne3 a105 (kI 3 0))] (.cond VV (sR [oP rQ (.iV (.c .jk))] .ret) .skip)))) (.uu [oM AN fL,oP AO (ad3 Ag (kI 3 1)),oM nF Ah])))
def aaU:ai:=.ret
def aaT:ai:=(sR [oM d107 lA,oM rQ a107] aaU)
def aaS:ai:=(.seq (sR [oM nF (kI 3 0)] (.block 0 (.loop As))) aaT)
def aaR:ai:=(sR [oC qD 28 [],oM xW mC,oX vY gv 0,oX AF gv 1,oM vX mD,oM kN Aa] aaS)
def c6:ai:=(sR [oP rQ (.iV (.c .jk))] aaR)
def C9:=oo (cd 9) (by conv=>lhs;reduce)
def aaV:=oo (lb 0 C9) (by conv=>lhs;reduce)
def aaZ:ai:=.ret
def aaY:=oA (sp 7 C9) (by conv=>lhs;reduce) aaZ
def aaX:=oB (λa x=>rp 6 [a] C9 x) (by conv=>lhs;reduce) aaV aaY
def aaW:=oA (sp 5 C9) (by conv=>lhs;reduce) aaX
def Xf:=oA (sp 4 C9) (by conv=>lhs;reduce) aaW
def Xe:=oA (sp 3 C9) (by conv=>lhs;reduce) Xf
def Xd:=oA (sp 2 C9) (by conv=>lhs;reduce) Xe
def Xc:=oA (sp 1 C9) (by conv=>lhs;reduce) Xd
def c9:=oA (sp 0 C9) (by conv=>lhs;reduce) Xc
def c13:=oo (cd 13) (by conv=>lhs;reduce)
def C14:=oo (cd 14) (by conv=>lhs;reduce)
def UP:ai:=.ret
def UO:=oA (sp 5 C14) (by conv=>lhs;reduce) UP
def UN:=oA (sp 4 C14) (by conv=>lhs;reduce) UO
def UM:=oA (sp 3 C14) (by conv=>lhs;reduce) UN
def UL:=oA (sp 2 C14) (by conv=>lhs;reduce) UM
def UK:=oA (sp 1 C14) (by conv=>lhs;reduce) UL
def c14:=oA (sp 0 C14) (by conv=>lhs;reduce) UK
def c22:=oo (cd 22) (by conv=>lhs;reduce)
def c73:=oo (cd 73) (by conv=>lhs;reduce)
def C42:=oo (cd 42) (by conv=>lhs;reduce)
def Cw:=oo (lb 0 C42) (by conv=>lhs;reduce)
def c42:=oA (λa=>lm [a] C42) (by conv=>lhs;reduce) Cw
def C43:=oo (cd 43) (by conv=>lhs;reduce)
def IW:=oo (lb 0 C43) (by conv=>lhs;reduce)
def aaO:ai:=.ret
def aaN:=oA (sp 3 C43) (by conv=>lhs;reduce) aaO
def U8:ai:=(.seq (.block 0 (.loop IW)) aaN)
def U7:=oA (sp 1 C43) (by conv=>lhs;reduce) U8
def c43:=oA (sp 0 C43) (by conv=>lhs;reduce) U7
def C44:=oo (cd 44) (by conv=>lhs;reduce)
def FU:ai:=.ret
def FT:=oA (sp 11 C44) (by conv=>lhs;reduce) FU
def FR:=oA (sp 10 C44) (by conv=>lhs;reduce) FT
def MD:=oA (sp 9 C44) (by conv=>lhs;reduce) FR
def MC:=oA (sp 8 C44) (by conv=>lhs;reduce) MD
def MB:=oA (sp 7 C44) (by conv=>lhs;reduce) MC
def MA:=oA (sp 6 C44) (by conv=>lhs;reduce) MB
def Mz:=oA (sp 5 C44) (by conv=>lhs;reduce) MA
def My:=oA (sp 4 C44) (by conv=>lhs;reduce) Mz
def Mx:=oA (sp 3 C44) (by conv=>lhs;reduce) My
def Mw:=oA (sp 2 C44) (by conv=>lhs;reduce) Mx
def Mv:=oA (sp 1 C44) (by conv=>lhs;reduce) Mw
def c44:=oA (sp 0 C44) (by conv=>lhs;reduce) Mv
def C45:=oo (cd 45) (by conv=>lhs;reduce)
def tS:=oo (lb 0 C45) (by conv=>lhs;reduce)
def c45:=oA (λa=>lm [a] C45) (by conv=>lhs;reduce) tS
def c46:=oo (cd 46) (by conv=>lhs;reduce)
def U9:=oo (cd 48) (by conv=>lhs;reduce)
def C50:=oo (cd 50) (by conv=>lhs;reduce)
def Cx:=oo (lb 0 C50) (by conv=>lhs;reduce)
def yr:=oo (lb 1 C50) (by conv=>lhs;reduce)
def yu:=oo (lb 2 C50) (by conv=>lhs;reduce)
def MH:ai:=.ret
def MG:=oA (sp 11 C50) (by conv=>lhs;reduce) MH
def MF:=oB (λa x=>rp 10 [a] C50 x) (by conv=>lhs;reduce) yu MG
def MQ:=oA (sp 9 C50) (by conv=>lhs;reduce) MF
def MP:=oA (sp 8 C50) (by conv=>lhs;reduce) MQ
def MN:=oB (λa x=>rp 7 [a] C50 x) (by conv=>lhs;reduce) yr MP
def MM:=oA (sp 6 C50) (by conv=>lhs;reduce) MN
def ML:=oA (sp 5 C50) (by conv=>lhs;reduce) MM
def MK:=oA (sp 4 C50) (by conv=>lhs;reduce) ML
def MJ:=oA (sp 3 C50) (by conv=>lhs;reduce) MK
def MI:=oB (λa x=>rp 2 [a] C50 x) (by conv=>lhs;reduce) Cx MJ
def ME:=oA (sp 1 C50) (by conv=>lhs;reduce) MI
def c50:=oA (sp 0 C50) (by conv=>lhs;reduce) ME
def c55:=oo (cd 55) (by conv=>lhs;reduce)
def c35:=oo (cd 35) (by conv=>lhs;reduce)
def C51:=oo (cd 51) (by conv=>lhs;reduce)
def IX:=oo (lb 0 C51) (by conv=>lhs;reduce)
def Cy:=oo (lb 1 C51) (by conv=>lhs;reduce)
def Ar:ai:=.ret
def I2:=oA (sp 9 C51) (by conv=>lhs;reduce) Ar
def I1:=oA (sp 8 C51) (by conv=>lhs;reduce) I2
def I0:=oA (sp 7 C51) (by conv=>lhs;reduce) I1
def IZ:=oB (λa x=>rp 6 [a] C51 x) (by conv=>lhs;reduce) Cy I0
def IY:=oA (sp 5 C51) (by conv=>lhs;reduce) IZ
def CD:=oA (sp 4 C51) (by conv=>lhs;reduce) IY
def CC:=oA (sp 3 C51) (by conv=>lhs;reduce) CD
def CA:=oB (λa x=>rp 2 [a] C51 x) (by conv=>lhs;reduce) IX CC
def Cz:=oA (sp 1 C51) (by conv=>lhs;reduce) CA
def c51:=oA (sp 0 C51) (by conv=>lhs;reduce) Cz
def c56:=oo (cd 56) (by conv=>lhs;reduce)
def W6:=oo (cd 117) (by conv=>lhs;reduce)
def c81:=oo (cd 81) (by conv=>lhs;reduce)
def c82:=oo (cd 82) (by conv=>lhs;reduce)
def C83:=oo (cd 83) (by conv=>lhs;reduce)
def CK:=oo (lb 0 C83) (by conv=>lhs;reduce)
def Va:=oA (λa=>lm [a] C83) (by conv=>lhs;reduce) CK
def c49:=oo (cd 49) (by conv=>lhs;reduce)
def c52:=oo (cd 52) (by conv=>lhs;reduce)
def c53:=oo (cd 53) (by conv=>lhs;reduce)
def c38:=oo (cd 38) (by conv=>lhs;reduce)
def C21:=oo (cd 21) (by conv=>lhs;reduce)
def IV:=oo (lb 0 C21) (by conv=>lhs;reduce)
def c21:=oA (λa=>lm [a] C21) (by conv=>lhs;reduce) IV
def c23:=oo (cd 23) (by conv=>lhs;reduce)
def C25:=oo (cd 25) (by conv=>lhs;reduce)
def yq:=oo (lb 0 C25) (by conv=>lhs;reduce)
def ZR:=oA (λa=>lm [a] C25) (by conv=>lhs;reduce) yq
def c28:=oo (cd 28) (by conv=>lhs;reduce)
def c29:=oo (cd 29) (by conv=>lhs;reduce)
def c30:=oo (cd 30) (by conv=>lhs;reduce)
def c31:ai:=(sR [oP rQ (.box nR),oP vX (.box pY),oP kN (.oT [(.int 7 0),(.int 3 0),(.bool false),.aB])] (.seq (.nG [⟨0,xW,none,1,(.dx 4 FC)⟩,⟨0,qD,none,1,(.call 154 [gv])⟩,⟨0,vY,none,1,(.dx 4 lA)⟩,oC AF 154 [mD],⟨0,nF,none,1,(.oT [(.int 7 0),(.int 7 0),(.int 7 0)])⟩,⟨0,AE,none,1,(.oT [(.int 7 0),(.int 7 0),(.int 7 0)])⟩,oP none (.gX 3 fL mC),oP none (.gX 3 ju Aa)]) (.seq (.seq (.nG [⟨0,xX,none,1,(.dx 3 fL)⟩,⟨0,AG,none,1,(.dx 3 ju)⟩,oP AH (.kX [1,1,1] true rC rD),oM xY vE,⟨0,xZ,(gT .i0 .i1 .i6),0,(.Z0 3 1 fL none none none)⟩,⟨0,AI,(gT .i0 .i1 .i6),0,(.Z0 3 1 ju none none none)⟩,⟨0,x9,(gT .i0 .i1 .i6),0,(.call 156 [pZ,qa])⟩,⟨0,CX,(gT .i0 .i1 .i6),0,(lt3 qz (kI 3 0))⟩,oP AJ (.pick sO Ab (.c (.bool false)))]) (.cond Ac (.uu [oP AK (.dx 4 lA),oP none (.gX 4 FC Ad)]) .skip)) (sR [oF AL 3 FC,oL AM Ae,oC AN 116 [Af],oF AO 3 FC,oP none (.eX Ah Ag)] (sR [oP AP (.dx 4 FC),oP none (.gX 4 kM Ai)] .ret)))))
def c54:=oo (cd 54) (by conv=>lhs;reduce)
def c57:=oo (cd 57) (by conv=>lhs;reduce)
def FP:=oo (cd 119) (by conv=>lhs;reduce)
def c85:=oo (cd 85) (by conv=>lhs;reduce)
def c86:=oo (cd 86) (by conv=>lhs;reduce)
def c87:=oo (cd 87) (by conv=>lhs;reduce)
def c88:=oo (cd 88) (by conv=>lhs;reduce)
def C90:=oo (cd 90) (by conv=>lhs;reduce)
def CL:=oo (lb 0 C90) (by conv=>lhs;reduce)
def c90:=oA (λa=>lm [a] C90) (by conv=>lhs;reduce) CL
def C91:=oo (cd 91) (by conv=>lhs;reduce)
def qg:=oo (lb 0 C91) (by conv=>lhs;reduce)
def c91:=oA (λa=>lm [a] C91) (by conv=>lhs;reduce) qg
def C92:=oo (cd 92) (by conv=>lhs;reduce)
def CM:=oo (lb 0 C92) (by conv=>lhs;reduce)
def c92:=oA (λa=>lm [a] C92) (by conv=>lhs;reduce) CM
def c93:=oo (cd 93) (by conv=>lhs;reduce)
def c94:=oo (cd 94) (by conv=>lhs;reduce)
def c95:=oo (cd 95) (by conv=>lhs;reduce)
def C96:=oo (cd 96) (by conv=>lhs;reduce)
def I3:=oo (lb 0 C96) (by conv=>lhs;reduce)
def c96:=oA (λa=>lm [a] C96) (by conv=>lhs;reduce) I3
def c97:=oo (cd 97) (by conv=>lhs;reduce)
def c98:=oo (cd 98) (by conv=>lhs;reduce)
def C99:=oo (cd 99) (by conv=>lhs;reduce)
def I4:=oo (lb 0 C99) (by conv=>lhs;reduce)
def c99:=oA (λa=>lm [a] C99) (by conv=>lhs;reduce) I4
def C100:=oo (cd 100) (by conv=>lhs;reduce)
def Am:=oo (lb 0 C100) (by conv=>lhs;reduce)
def aam:=oA (λa=>lm [a] C100) (by conv=>lhs;reduce) Am
def W4:=oo (cd 101) (by conv=>lhs;reduce)
def vJ:ai:=(sR [oP St (lt3 FE Rc)] (.seq (.cond Re .skip (.exit 0)) (.seq (.block 1 (sR [oP Su (.tq 4 L9 FE),oP Sv (.dx 4 Rf),oP xW (.oT [(.int 7 0),(.int 7 0),.aB,(.bool false)]),oP none (.gX 4 gv Rg)] (.nG [oM Sw fL,oF Sx 0 gv,⟨0,Sy,none,1,(.dx 2 Ri)⟩,⟨0,Sz,none,1,(.call 278 [Rh,Rj])⟩,oF SA 3 gv,⟨0,SB,none,1,(.cS Rl)⟩,⟨0,SC,none,1,(.call 280 [Rm])⟩,⟨0,SD,none,1,(.jP false 1 [(.int 3 0)] [⟨0,⟨1,Rn⟩⟩])⟩,⟨0,SE,none,1,(.call 276 [Rk,Ro])⟩,oF SF 2 gv,⟨0,SG,none,1,(.cS Rq)⟩,oC SH 276 [Rp,Rr],oM nF Rs]))) (.uu [oP SI (ad3 FE (kI 3 1)),oM M8 Rt]))))
def Sf:ai:=(sR [oP aeU (.box nR),oP rQ (.iV (.c (.str 0 0))),oM vX (kI 3 0)] (.seq (sR [oP AF (.dx 9 pY),oF xX 0 pY,oL AG rC,oP AH (.dL rD),oC xY 90 [Aa,vE,(kI 3 1024)],oM kN sO] (sR [oM xZ kM,oP AI (ne3 pZ (kI 3 0))] (.cond qa (sR [oM x9 kM,oP rQ (.iV (.c (.str 0 0))),oM vX qz] .ret) .skip))) (.seq (.nG [oF CX 0 pY,⟨0,AJ,none,1,(.cS Ab)⟩,⟨0,AK,none,1,(.dL Ac)⟩,⟨0,AL,none,1,(.jP false 1 [(.int 3 0)] [⟨0,⟨1,Ad⟩⟩])⟩,⟨0,AM,none,1,(.call 276 [(.c (.str 0 0)),Ae])⟩,oF AN 0 pY,⟨0,AO,none,1,(.cS Ag)⟩,oC AP 276 [Af,Ah],oM nF Ai]) (sR [oM F5 fL,oF F6 1 pY,oL F7 Cj,oP J8 (.dL FD),oP MY (.jP false 1 [(.int 3 0)] [⟨0,⟨1,JV⟩⟩]),oC MZ 276 [xQ,L6],oM nF L7] (.seq (sR [oF M1 1 pY,oL Sr L8,oP Ss (.dL L9),oM M8 (kI 3 0)] (.block 0 (.loop vJ))) (sR [oF SK 2 pY,oP SL (.dx 7 Ru),oP qD (.oT [(.int 7 0),(.int 7 0),(.int 7 0),(.int 7 0),(.int 3 0),(.int 3 0),.aB]),oP none (.gX 7 mC Rv)] (sR [oF SM 2 mC,oP SN (.dx 2 Rw),oP SO (.build [(.int 7 0),(.int 7 0)] []),oP SP (.kX [1,1] true Rx Ry),oM vY Rz] (sR [oM SQ fL,oM SR mD,oC SS 280 [RD],oP SU (.jP false 1 [(.int 3 0)] [⟨0,⟨1,RE⟩⟩]),oC SV 276 [RA,RG],oM nF RH] (.seq (sR [oM SW mD] (.cond RJ (.nG [oM d100 fL,oF d101 0 mC,⟨0,d102,none,1,(.dx 2 RL)⟩,⟨0,d103,none,1,(.call 278 [RK,RM])⟩,oF d104 2 mC,⟨0,d105,none,1,(.dx 2 VU)⟩,⟨0,d106,none,1,(.call 278 [RN,a105])⟩,oF d107 4 mC,⟨0,d110,none,1,(.cS a107)⟩,oF d111 5 mC,⟨0,d112,none,1,(.cS Z7)⟩,⟨0,d113,none,1,(.jP false 2 [(.int 3 0),(.int 3 0)] [⟨0,⟨1,Z6⟩⟩,⟨1,⟨1,Z8⟩⟩])⟩,⟨0,d114,none,1,(.call 276 [VV,Z9])⟩,oF d115 6 mC,⟨0,d116,none,1,(.cS aab)⟩,oC d117 276 [aaa,a116],oM nF a117]) .skip)) (.seq (sR [oM d120 fL,oC d121 258 [aac],oP d122 (gt3 aad (kI 3 48))] (.cond aae (sR [oP rQ (.iV (.c (.str 0 0))),oM vX (kI 3 3)] .ret) .skip)) (sR [oM d123 fL,oM rQ aaf,oM vX (kI 3 0)] .ret)))))))))))
def C103:=oo (cd 103) (by conv=>lhs;reduce)
def mH:=oo (lb 0 C103) (by conv=>lhs;reduce)
def J2:=oA (λa=>lm [a] C103) (by conv=>lhs;reduce) mH
def aan:=oo (cd 104) (by conv=>lhs;reduce)
def rM:ai:=(sR [oP kN (.box nR),oP nF (.box pY),oM qD (kI 3 0)] (.seq (sR [oF vY 2 kM,oP AF (.dx 2 mD),oP xX (.build [(.int 7 0),(.int 7 0)] []),oP AG (.kX [1,1] false Aa rC)] (.cond rD (.seq (sR [oF AH 0 kM,oP xY (.dx 2 vE),oF xZ 2 kM,oP AI (.dx 2 pZ),oP x9 (.kX [1,1] true sO qa),oM CX qz,⟨0,AJ,(gF .i0 .i2 .i2),0,(.lY 4 kM)⟩,⟨0,AK,(gF .i0 .i2 .i2),0,(.cS Ac)⟩,⟨0,AL,(gF .i0 .i2 .i2),0,(ne3 Ad (kI 3 0))⟩,oP AM (.pick Ab (.c (.bool true)) Ae),oM AN Af,⟨0,AO,(gF .i0 .i2 .i7),0,(.lY 5 kM)⟩,⟨0,AP,(gF .i0 .i2 .i7),0,(.cS Ah)⟩,⟨0,F5,(gF .i0 .i2 .i7),0,(ne3 Ai (kI 3 0))⟩,oP F6 (.pick Ag (.c (.bool true)) xQ),oM F7 Cj,⟨0,J8,(gF .i0 .i3 .i4),0,(.lY 6 kM)⟩,⟨0,MY,(gF .i0 .i3 .i4),0,(.cS JV)⟩,⟨0,MZ,(gF .i0 .i3 .i4),0,(.dL L6)⟩,⟨0,M1,(gF .i0 .i3 .i4),0,(ne3 L7 (kI 3 0))⟩,oP Sr (.pick FD (.c (.bool true)) L8)] (.cond L9 (sR [oM qD (kI 3 2)] .ret) .skip)) (sR [oM qD (kI 3 0)] .ret)) .skip)) (.seq (sR [oF Ss 0 kM,oP M8 (.dx 2 Rc),oP St (.dx 2 fL),oP Su (.kX [1,1] true FE Re),oM Sv Rf,⟨0,Sw,(gF .i0 .i4 .i6),0,(.lY 2 kM)⟩,⟨0,Sx,(gF .i0 .i4 .i6),0,(.dx 2 Rh)⟩,⟨0,Sy,(gF .i0 .i4 .i6),0,(.dx 2 fL)⟩,⟨0,Sz,(gF .i0 .i4 .i6),0,(.call 208 [Ri,Rj])⟩,⟨0,SA,(gF .i0 .i4 .i6),0,(.cmp 3 (.le 9223372036854775808 18446744073709551616) Rk (kI 3 0))⟩,oP SB (.pick Rg (.c (.bool true)) Rl),oM SC Rm,⟨0,SD,(gF .i0 .i5 .i5),0,(.lY 4 kM)⟩,⟨0,SE,(gF .i0 .i5 .i5),0,(.cS Ro)⟩,⟨0,SF,(gF .i0 .i5 .i5),0,(lt3 Rp (kI 3 1))⟩,oP SG (.pick Rn (.c (.bool true)) Rq),oM SH Rr,⟨0,SI,(gF .i0 .i6 .i2),0,(.lY 5 kM)⟩,⟨0,SK,(gF .i0 .i6 .i2),0,(.cS Rt)⟩,⟨0,SL,(gF .i0 .i6 .i2),0,(.lY 4 kM)⟩,⟨0,SM,(gF .i0 .i6 .i2),0,(.cS Rv)⟩,⟨0,SN,(gF .i0 .i6 .i2),0,(.cmp 3 (.le 9223372036854775808 18446744073709551616) Ru Rw)⟩,oP SO (.pick Rs (.c (.bool true)) Rx),oM SP Ry,⟨0,SQ,(gF .i0 .i7 .i1),0,(.lY 5 kM)⟩,⟨0,SR,(gF .i0 .i7 .i1),0,(.cS RA)⟩,⟨0,SS,(gF .i0 .i7 .i1),0,(.iV FC)⟩,⟨0,SU,(gF .i0 .i7 .i1),0,(gt3 RD RE)⟩,oP SV (.pick Rz (.c (.bool true)) RG)] (.cond RH (sR [oM qD (kI 3 2)] .ret) .skip)) (sR [oF SW 6 kM,oL d100 RJ,oM d101 FC,oM d102 lA,oC d103 206 [RK,RL,RM],oM qD RN] .ret))))
def W5:=oo (cd 108) (by conv=>lhs;reduce)
noncomputable def kR:RC × RC:=Y5 ((Tryz.prog.funcs[109]?).bind (jg Tryz.prog 109))
noncomputable def aao:ai:=(sR [oP vX (.box pY),oP kN (.oT [.aB]),oP nF (.oT [(.int 3 0)])] (.seq (sR [oL qD lA,oP vY (lt3 mC (kI 3 0)),oM AF mD,⟨0,xX,(gF .i0 .i1 .i2),0,(.cS lA)⟩,⟨0,AG,(gF .i0 .i1 .i2),0,(gt3 rC (kI 3 1024))⟩,oP AH (.pick Aa (.c (.bool true)) rD)] (.cond vE (sR [oP none (.eX kM (.c .aB)),oP none (.eX fL (kI 3 2))] .ret) .skip)) (sR [oL xY lA,oP xZ (.mkSlice false [(.int 3 0)] sO sO),oP AE (.oT [.aB]),oP none (.eX ju pZ)] (.seq (sR [oM AI nR,oC x9 288 [qa]] (.block 0 (.kz qz [s022] kR.1 kR.2))) (sR [oL M1 ju,oP none (.eX kM L8),oP none (.eX fL (kI 3 0))] .ret)))))
def UG:ai:=(.uu [oM xW Ab])
def UH:ai:=(.block 1 (.seq (sR [oM AJ gv,oP AK (lt3 Ac (kI 3 193)),oM AL Ad,⟨0,AM,(gF .i0 .i2 .i5),0,(.iV gv)⟩,⟨0,AN,(gF .i0 .i2 .i5),0,(.cS lA)⟩,⟨0,AO,(gF .i0 .i2 .i5),0,(.cmp 3 (.ge 9223372036854775808 18446744073709551616) Af Ag)⟩,oP AP (.pick Ae (.c (.bool true)) Ah)] (.cond Ai (sR [oP none (.eX kM (.c .aB)),oP none (.eX fL (kI 3 2))] .ret) .skip)) (.uu [oL F5 ju,oM F6 gv,oP F7 (.tq 1 xQ Cj),oL J8 FD,oP MY (ad3 JV (kI 3 1)),oP MZ (.tq 1 xQ Cj),oP none (.eX L7 L6)])))
theorem Vw:aO Tryz.prog kR.1=UG/\aO Tryz.prog kR.2=UH:=by constructor<;>kernel_rfl
noncomputable def eh:RC × RC:=Y5 ((Tryz.prog.funcs[110]?).bind (jg Tryz.prog 110))
noncomputable def Sg:ai:=(sR [oP vX (.box pY),oP kN (.iV (.c .aB)),oM nF (kI 3 0)] (.seq (sR [oL qD lA,oP vY (lt3 mC (kI 3 0))] (.cond mD (sR [oP kN (.iV (.c .aB)),oM nF (kI 3 2)] .ret) .skip)) (.seq (.seq (.nG [⟨0,AF,none,1,(.cS lA)⟩,oM xX nR,⟨0,AG,none,1,(.call 290 [rC])⟩,oP AH (gt3 Aa rD)]) (.cond vE (sR [oP kN (.iV (.c .aB)),oM nF (kI 3 7)] .ret) .skip)) (sR [oP AE (.oT [.aB])] (.seq (sR [oM xY nR,oC xZ 292 [sO]] (.block 0 (.kz pZ [s020] eh.1 eh.2))) (sR [oL AP ju,oM kN Ai,oM nF (kI 3 0)] .ret))))))
def Mp:ai:=(.uu [oM xW qa])
def Mq:ai:=(.block 1 (.seq (sR [oL x9 ju,oP CX (.dL qz),oL AJ lA,oP AK (eq3 Ab Ac)] (.cond Ad (.exit 0) .skip)) (.uu [oL AL ju,oM AM gv,oP AN (.jP false 1 [(.int 3 0)] [⟨0,⟨1,Af⟩⟩]),oP AO (.app false 1 Ae Ag),oP none (.eX ju Ah)])))
theorem JI:aO Tryz.prog eh.1=Mp/\aO Tryz.prog eh.2=Mq:=by constructor<;>kernel_rfl
def C111:=oo (cd 111) (by conv=>lhs;reduce)
def vK:=oo (lb 0 C111) (by conv=>lhs;reduce)
def aap:=oA (λa=>lm [a] C111) (by conv=>lhs;reduce) vK
def C141:=oo (cd 141) (by conv=>lhs;reduce)
def FQ:=oo (lb 0 C141) (by conv=>lhs;reduce)
def aaz:=oA (λa=>lm [a] C141) (by conv=>lhs;reduce) FQ
def Sh:=oo (cd 121) (by conv=>lhs;reduce)
def aaq:=oo (cd 122) (by conv=>lhs;reduce)
def C124:=oo (cd 124) (by conv=>lhs;reduce)
def An:=oo (lb 0 C124) (by conv=>lhs;reduce)
def vN:=oo (lb 1 C124) (by conv=>lhs;reduce)
def aar:=oB (λa b=>lm [a,b] C124) (by conv=>lhs;reduce) An vN
def J3:=oo (cd 125) (by conv=>lhs;reduce)
def c58:=oo (cd 58) (by conv=>lhs;reduce)
def CE:ai:=(sR [oP xZ (lt3 sO vE)] (.seq (.cond pZ .skip (.exit 0)) (.seq (.block 1 (sR [oM AI sO,oM AE qa] (.seq (.nG [oM x9 nR,oM CX ju,oP AJ (.tq 2 qz Ab),⟨0,AK,none,1,(.dx 2 Ac)⟩,oF AL 3 lA,⟨0,AM,none,1,(.cS Ae)⟩,oM AN ju,oP AO (.tq 2 Af Ag),⟨0,AP,none,1,(.dx 2 Ah)⟩,oP F5 (.kX [1,1] true Ad Ai)]) (.cond xQ (sR [oM F6 ju,oM kN Cj] .ret) .skip)))) (.uu [oP F7 (ad3 sO (kI 3 1)),oM xY FD]))))
def c59:ai:=(sR [oP vX (.box pY),oM kN (kI 3 0)] (sR [oM xW nR,oP qD (.dL gv),oF vY 3 lA,oL AF mD,oP xX (.dL Aa),oP AG (.mm 3 9223372036854775808 18446744073709551616 false mC rC),oM nF rD] (.seq (sR [oM AH fL,oM xY (kI 3 0)] (.block 0 (.loop CE))) (sR [oM J8 fL,oM kN JV] .ret))))
def c74:=oo (cd 74) (by conv=>lhs;reduce)
def c75:=oo (cd 75) (by conv=>lhs;reduce)
def c76:=oo (cd 76) (by conv=>lhs;reduce)
def c77:=oo (cd 77) (by conv=>lhs;reduce)
def C78:=oo (cd 78) (by conv=>lhs;reduce)
def CJ:=oo (lb 0 C78) (by conv=>lhs;reduce)
def c78:=oA (λa=>lm [a] C78) (by conv=>lhs;reduce) CJ
def aas:=oo (cd 126) (by conv=>lhs;reduce)
def Si:=oo (cd 127) (by conv=>lhs;reduce)
def aat:=oo (cd 129) (by conv=>lhs;reduce)
def aau:=oo (cd 132) (by conv=>lhs;reduce)
def aav:=oo (cd 133) (by conv=>lhs;reduce)
def Ct:=oo (cd 134) (by conv=>lhs;reduce)
def Sj:=oo (cd 135) (by conv=>lhs;reduce)
def C136:=oo (cd 136) (by conv=>lhs;reduce)
def qB:=oo (lb 0 C136) (by conv=>lhs;reduce)
def Sk:=oA (λa=>lm [a] C136) (by conv=>lhs;reduce) qB
def W8:=oo (cd 137) (by conv=>lhs;reduce)
def C138:=oo (cd 138) (by conv=>lhs;reduce)
def Ao:=oo (lb 0 C138) (by conv=>lhs;reduce)
def aaw:=oA (λa=>lm [a] C138) (by conv=>lhs;reduce) Ao
def aax:=oo (cd 139) (by conv=>lhs;reduce)
def aay:=oo (cd 140) (by conv=>lhs;reduce)
def aaA:=oo (cd 144) (by conv=>lhs;reduce)
noncomputable def nM:RC × RC:=Y5 ((Tryz.prog.funcs[145]?).bind (jg Tryz.prog 145))
noncomputable def aaB:ai:=(sR [oM rQ (kI 3 0)] (sR [oP vX (.oT [(.int 3 0)]),oP none (.eX lA (kI 3 0))] (.seq (sR [oM kN nR,oC nF 292 [kM]] (.block 0 (.kz fL [s006] nM.1 nM.2))) (sR [oL vY lA,oM rQ mD] .ret))))
def UI:ai:=.skip
def UJ:ai:=(.block 1 (.uu [oL xW lA,oP qD (ad3 gv (kI 3 1)),oP none (.eX lA mC)]))
theorem Vx:aO Tryz.prog nM.1=UI/\aO Tryz.prog nM.2=UJ:=by constructor<;>kernel_rfl
def aaC:=oo (cd 146) (by conv=>lhs;reduce)
def aeB:=oo (cd 147) (by conv=>lhs;reduce)
def aaD:=oo (cd 149) (by conv=>lhs;reduce)
def C150:=oo (cd 150) (by conv=>lhs;reduce)
def vO:=oo (lb 0 C150) (by conv=>lhs;reduce)
def aaE:=oA (λa=>lm [a] C150) (by conv=>lhs;reduce) vO
def aaF:=oo (cd 151) (by conv=>lhs;reduce)
def Mr:=oo (cd 152) (by conv=>lhs;reduce)
def Sl:=oo (cd 153) (by conv=>lhs;reduce)
def C120:=oo (cd 120) (by conv=>lhs;reduce)
def vM:=oo (lb 0 C120) (by conv=>lhs;reduce)
def W7:=oA (λa=>lm [a] C120) (by conv=>lhs;reduce) vM
def aaG:=oo (cd 154) (by conv=>lhs;reduce)
def Mt:=oo (cd 164) (by conv=>lhs;reduce)
def sU:ai:=(sR [oP AI (lt3 pZ sO)] (.seq (.cond qa .skip (.exit 2)) (.seq (.block 3 (sR [oP x9 (.tq 1 vE pZ),oL CX qz,oM AE Ab] (sR [oM AJ ju,oP AK (ne3 Ac (kI 3 0)),oM AL Ad,⟨0,AM,(gT .i0 .i2 .i5),0,(.iV nR)⟩,⟨0,AN,(gT .i0 .i2 .i5),0,(.iV ju)⟩,⟨0,AO,(gT .i0 .i2 .i5),0,(.MS Af [Ag])⟩,⟨0,AP,(gT .i0 .i2 .i5),0,(.Oh Ah)⟩,oP F5 (.pick Ae Ai (.c (.bool false)))] (.cond xQ .ret .skip)))) (.uu [oP F6 (ad3 pZ (kI 3 1)),oM xZ Cj]))))
def Ap:ai:=(sR [oP AF (lt3 mD mC)] (.seq (.cond Aa .skip (.exit 0)) (.seq (.block 1 (sR [oP xX (.tq 1 gv mD),oL AG rC,oM kN rD] (sR [oM AH kM,oP xY (.dL vE),oM xZ (kI 3 0)] (.block 2 (.loop sU))))) (.uu [oP F7 (ad3 mD (kI 3 1)),oM vY FD]))))
def aaH:ai:=(sR [oL xW pY,oP qD (.dL gv),oM vY (kI 3 0)] (.block 0 (.loop Ap)))
def C166:=oo (cd 166) (by conv=>lhs;reduce)
def sV:=oo (lb 0 C166) (by conv=>lhs;reduce)
def W9:=oA (λa=>lm [a] C166) (by conv=>lhs;reduce) sV
def aaI:=oo (cd 167) (by conv=>lhs;reduce)
def C168:=oo (cd 168) (by conv=>lhs;reduce)
def Aq:=oo (lb 0 C168) (by conv=>lhs;reduce)
def Sm:=oA (λa=>lm [a] C168) (by conv=>lhs;reduce) Aq
/-- The functions,as they stand in a table. -/
structure aG (t:Nat->Option cF):Prop where
 k3:t 3=some (.code [s000,s001] [(.tmp s004)] c3)
 k18:t 18=some (.code [s000] [(.tmp s002),(.tmp s003)] c18)
 k8:t 8=some (.code [s000] [(.tmp s002)] c8)
 k36:t 36=some (.code [s000,s001] [(.tmp s004)] c36)
 k37:t 37=some (.code [s000,s001] [(.tmp s004)] c37)
 k20:t 20=some (.code [s000,s001,s002] [(.tmp s006)] c20)
 k16:t 16=some (.code [s000] [] c16)
 k6:t 6=some (.code [s000] [(.tmp s002)] c6)
 k9:t 9=some (.code [s000,s001,s002] [(.lP s006 4),(.tmp s007)] c9)
 k13:t 13=some (.code [s000,s001] [(.lP s004 2)] c13)
 k14:t 14=some (.code [] [(.tmp s000),(.tmp s001)] c14)
 k22:t 22=some (.code [s000,s001] [(.tmp s004)] c22)
 k73:t 73=some (.code [s000,s001] [(.tmp s004)] c73)
 k42:t 42=some (.code [s000] [(.tmp s002)] c42)
 k43:t 43=some (.code [s000] [(.tmp s002),(.tmp s003)] c43)
 k44:t 44=some (.code [s000] [(.lP s002 9),(.tmp s003)] c44)
 k45:t 45=some (.code [s000,s001,s002] [(.tmp s006)] c45)
 k46:t 46=some (.code [s000] [(.tmp s002)] c46)
 k48:t 48=some (.code [s000] [(.tmp s002)] U9)
 k50:t 50=some (.code [s000,s001] [(.tmp s004),(.tmp s005),(.tmp s006)] c50)
 k55:t 55=some (.code [s000] [(.lP s002 4)] c55)
 k35:t 35=some (.code [s000] [(.tmp s002)] c35)
 k51:t 51=some (.code [s000,s001,s002] [(.tmp s006)] c51)
 k56:t 56=some (.code [s000] [] c56)
 XL:t 117=some (.code [s000,s001,s002] [] W6)
 k81:t 81=some (.code [s000] [(.tmp s002)] c81)
 k82:t 82=some (.code [s000] [(.tmp s002),(.tmp s003)] c82)
 Vl:t 83=some (.code [s000,s001] [(.tmp s004)] Va)
 k49:t 49=some (.code [s000,s001,s002] [(.tmp s006)] c49)
 k52:t 52=some (.code [s000,s001,s002] [] c52)
 k53:t 53=some (.code [s000,s001,s002] [(.tmp s006),(.tmp s007)] c53)
 k38:t 38=some (.code [s000] [(.tmp s002)] c38)
 k21:t 21=some (.code [s000] [(.tmp s002)] c21)
 k23:t 23=some (.code [s000] [(.lP s002 4)] c23)
 k25:t 25=some (.code [s000,s001] [(.tmp s004)] ZR)
 k28:t 28=some (.code [s000,s001] [(.tmp s003)] c28)
 k29:t 29=some (.code [s000,s001] [(.tmp s004)] c29)
 k30:t 30=some (.code [s000] [(.tmp s002)] c30)
 k31:t 31=some (.code [s000,s001] [(.lP s004 4)] c31)
 k54:t 54=some (.code [s000,s001] [(.tmp s004)] c54)
 k57:t 57=some (.code [s000,s001] [] c57)
 XM:t 119=some (.code [s000,s001] [] FP)
 k85:t 85=some (.code [s000] [(.tmp s002)] c85)
 k86:t 86=some (.code [s000] [(.tmp s002),(.tmp s003),(.tmp s004)] c86)
 k87:t 87=some (.code [s000,s001] [(.tmp s004),(.tmp s005)] c87)
 k88:t 88=some (.code [s000,s001] [(.tmp s004)] c88)
 k90:t 90=some (.code [s000] [(.tmp s002),(.tmp s003)] c90)
 k91:t 91=some (.code [s000,s001] [(.tmp s004)] c91)
 k92:t 92=some (.code [s000] [(.tmp s002)] c92)
 k93:t 93=some (.code [s000,s001] [(.tmp s004)] c93)
 k94:t 94=some (.code [s000] [(.tmp s002)] c94)
 k95:t 95=some (.code [s000] [(.tmp s001)] c95)
 k96:t 96=some (.code [s000] [(.tmp s002)] c96)
 k97:t 97=some (.code [s000] [(.lP s001 2)] c97)
 k98:t 98=some (.code [s000,s001] [(.tmp s002)] c98)
 k99:t 99=some (.code [s000,s001,s002] [(.tmp s006)] c99)
 abm:t 100=some (.code [s000,s001,s002] [(.tmp s006)] aam)
 abn:t 101=some (.code [s000,s001,s002] [(.lP s003 4)] W4)
 To:t 102=some (.code [s000] [(.tmp s002),(.tmp s003)] Sf)
 Tp:t 103=some (.code [s000,s001,s002] [(.tmp s006)] J2)
 abo:t 104=some (.code [s000,s001] [(.tmp s004)] aan)
 rY:t 105=some (.code [s000,s001,s002,s003] [(.tmp s010)] rM)
 abp:t 108=some (.code [s000] [(.tmp s002)] W5)
 abq:t 109=some (.code [s000,s001] [(.CO s004),(.CO s005)] aao)
 Tq:t 110=some (.code [s000,s001] [(.tmp s004),(.tmp s005)] Sg)
 abr:t 111=some (.code [s000] [(.lP s002 9)] aap)
 abI:t 141=some (.code [s000] [(.tmp s002)] aaz)
 abt:t 121=some (.code [s000,s001] [(.tmp s004)] Sh)
 abu:t 122=some (.code [s000,s001] [(.tmp s004)] aaq)
 abv:t 124=some (.code [s000,s001] [(.tmp s004),(.tmp s005)] aar)
 abw:t 125=some (.code [s000,s001] [(.tmp s004)] J3)
 k58:t 58=some (.code [s000] [(.tmp s002)] c58)
 k59:t 59=some (.code [s000,s001] [(.tmp s004)] c59)
 k74:t 74=some (.code [s000,s001,s002] [(.tmp s004)] c74)
 k75:t 75=some (.code [s000,s001] [(.tmp s004)] c75)
 k76:t 76=some (.code [s000,s001] [(.tmp s004)] c76)
 k77:t 77=some (.code [s000] [(.lP s002 3)] c77)
 k78:t 78=some (.code [s000,s001] [(.tmp s004)] c78)
 abx:t 126=some (.code [s000] [(.tmp s002),(.tmp s003),(.tmp s004)] aas)
 aby:t 127=some (.code [s000,s001] [(.tmp s004)] Si)
 abz:t 129=some (.code [s000] [(.tmp s002)] aat)
 abA:t 132=some (.code [s000] [(.tmp s002)] aau)
 abB:t 133=some (.code [s000] [(.tmp s002)] aav)
 abC:t 134=some (.code [s000,s001,s002] [(.tmp s006)] Ct)
 abD:t 135=some (.code [s000] [(.tmp s002)] Sj)
 XO:t 136=some (.code [s000,s001,s002] [(.tmp s003)] Sk)
 abE:t 137=some (.code [s000,s001] [(.tmp s004)] W8)
 abF:t 138=some (.code [s000,s001] [(.tmp s004)] aaw)
 abG:t 139=some (.code [s000,s001] [(.tmp s004)] aax)
 abH:t 140=some (.code [s000] [(.tmp s002)] aay)
 abJ:t 144=some (.code [s000] [(.tmp s002)] aaA)
 abK:t 145=some (.code [s000] [(.tmp s002)] aaB)
 abL:t 146=some (.code [s000] [(.tmp s002)] aaC)
 abM:t 147=some (.code [s000] [(.tmp s002)] aeB)
 abN:t 149=some (.code [s000] [(.tmp s002)] aaD)
 abO:t 150=some (.code [s000,s001] [(.tmp s004)] aaE)
 abP:t 151=some (.code [s000,s001] [(.tmp s004)] aaF)
 abQ:t 152=some (.code [s000,s001,s002] [(.tmp s004)] Mr)
 abR:t 153=some (.code [s000,s001] [(.tmp s004)] Sl)
 XN:t 120=some (.code [s000,s001] [(.tmp s004)] W7)
 abS:t 154=some (.code [s000] [(.tmp s002)] aaG)
 abT:t 164=some (.code [s000] [(.tmp s002)] Mt)
 abU:t 165=some (.code [s000,s001] [] aaH)
 XP:t 166=some (.code [s000,s001] [] W9)
 abV:t 167=some (.code [s000,s001] [(.tmp s004)] aaI)
 abW:t 168=some (.code [s000,s001] [(.tmp s004)] Sm)
theorem aa4:aG (λf=>(Tryz.prog.funcs[f]?).bind (jg Tryz.prog f)):=by constructor<;>kernel_rfl
theorem aG.over {t t':Nat->Option cF} (h:∀ f ∈ [3,18,8,36,37,20,16,6,9,13,14,22,73,42,43,44,45,46,48,50,55,35,51,56,117,81,82,83,49,52,53,38,21,23,25,28,29,30,31,54,57,119,85,86,87,88,90,91,92,93,94,95,96,97,98,99,100,101,102,103,104,105,108,109,110,111,141,121,122,124,125,58,59,74,75,76,77,78,126,127,129,132,133,134,135,136,137,138,139,140,144,145,146,147,149,150,151,152,153,120,154,164,165,166,167,168],t f=t' f) (c:aG t'):aG t:=⟨(h 3 (by decide)).trans c.k3,(h 18 (by decide)).trans c.k18,(h 8 (by decide)).trans c.k8,(h 36 (by decide)).trans c.k36,(h 37 (by decide)).trans c.k37,(h 20 (by decide)).trans c.k20,(h 16 (by decide)).trans c.k16,(h 6 (by decide)).trans c.k6,(h 9 (by decide)).trans c.k9,(h 13 (by decide)).trans c.k13,(h 14 (by decide)).trans c.k14,(h 22 (by decide)).trans c.k22,(h 73 (by decide)).trans c.k73,(h 42 (by decide)).trans c.k42,(h 43 (by decide)).trans c.k43,(h 44 (by decide)).trans c.k44,(h 45 (by decide)).trans c.k45,(h 46 (by decide)).trans c.k46,(h 48 (by decide)).trans c.k48,(h 50 (by decide)).trans c.k50,(h 55 (by decide)).trans c.k55,(h 35 (by decide)).trans c.k35,(h 51 (by decide)).trans c.k51,(h 56 (by decide)).trans c.k56,(h 117 (by decide)).trans c.XL,(h 81 (by decide)).trans c.k81,(h 82 (by decide)).trans c.k82,(h 83 (by decide)).trans c.Vl,(h 49 (by decide)).trans c.k49,(h 52 (by decide)).trans c.k52,(h 53 (by decide)).trans c.k53,(h 38 (by decide)).trans c.k38,(h 21 (by decide)).trans c.k21,(h 23 (by decide)).trans c.k23,(h 25 (by decide)).trans c.k25,(h 28 (by decide)).trans c.k28,(h 29 (by decide)).trans c.k29,(h 30 (by decide)).trans c.k30,(h 31 (by decide)).trans c.k31,(h 54 (by decide)).trans c.k54,(h 57 (by decide)).trans c.k57,(h 119 (by decide)).trans c.XM,(h 85 (by decide)).trans c.k85,(h 86 (by decide)).trans c.k86,(h 87 (by decide)).trans c.k87,(h 88 (by decide)).trans c.k88,(h 90 (by decide)).trans c.k90,(h 91 (by decide)).trans c.k91,(h 92 (by decide)).trans c.k92,(h 93 (by decide)).trans c.k93,(h 94 (by decide)).trans c.k94,(h 95 (by decide)).trans c.k95,(h 96 (by decide)).trans c.k96,(h 97 (by decide)).trans c.k97,(h 98 (by decide)).trans c.k98,(h 99 (by decide)).trans c.k99,(h 100 (by decide)).trans c.abm,(h 101 (by decide)).trans c.abn,(h 102 (by decide)).trans c.To,(h 103 (by decide)).trans c.Tp,(h 104 (by decide)).trans c.abo,(h 105 (by decide)).trans c.rY,(h 108 (by decide)).trans c.abp,(h 109 (by decide)).trans c.abq,(h 110 (by decide)).trans c.Tq,(h 111 (by decide)).trans c.abr,(h 141 (by decide)).trans c.abI,(h 121 (by decide)).trans c.abt,(h 122 (by decide)).trans c.abu,(h 124 (by decide)).trans c.abv,(h 125 (by decide)).trans c.abw,(h 58 (by decide)).trans c.k58,(h 59 (by decide)).trans c.k59,(h 74 (by decide)).trans c.k74,(h 75 (by decide)).trans c.k75,(h 76 (by decide)).trans c.k76,(h 77 (by decide)).trans c.k77,(h 78 (by decide)).trans c.k78,(h 126 (by decide)).trans c.abx,(h 127 (by decide)).trans c.aby,(h 129 (by decide)).trans c.abz,(h 132 (by decide)).trans c.abA,(h 133 (by decide)).trans c.abB,(h 134 (by decide)).trans c.abC,(h 135 (by decide)).trans c.abD,(h 136 (by decide)).trans c.XO,(h 137 (by decide)).trans c.abE,(h 138 (by decide)).trans c.abF,(h 139 (by decide)).trans c.abG,(h 140 (by decide)).trans c.abH,(h 144 (by decide)).trans c.abJ,(h 145 (by decide)).trans c.abK,(h 146 (by decide)).trans c.abL,(h 147 (by decide)).trans c.abM,(h 149 (by decide)).trans c.abN,(h 150 (by decide)).trans c.abO,(h 151 (by decide)).trans c.abP,(h 152 (by decide)).trans c.abQ,(h 153 (by decide)).trans c.abR,(h 120 (by decide)).trans c.XN,(h 154 (by decide)).trans c.abS,(h 164 (by decide)).trans c.abT,(h 165 (by decide)).trans c.abU,(h 166 (by decide)).trans c.XP,(h 167 (by decide)).trans c.abV,(h 168 (by decide)).trans c.abW⟩
def I7:List Nat:=[3,18,8,36,37,20,16,6,9,13,14,22,73,42,43,44,45,46,48,50,55,35,51,56,117,81,82,83,49,52,53,38,21,23,25,28,29,30,31,54,57,119,85,86,87,88,90,91,92,93,94,95,96,97,98,99,100,101,102,103,104,105,108,109,110,111,141,121,122,124,125,58,59,74,75,76,77,78,126,127,129,132,133,134,135,136,137,138,139,140,144,145,146,147,149,150,151,152,153,120,154,164,165,166,167,168]
end Go.Ev
