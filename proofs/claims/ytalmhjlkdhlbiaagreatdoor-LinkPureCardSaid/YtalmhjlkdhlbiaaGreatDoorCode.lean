/- The functions' code,as the evaluator has it. -/
import Derived.Test.YtalmhjlkdhlbiaaGreatDoorEvD
import Derived.Test.YtalmhjlkdhlbiaaGreatDoorLg
import Derived.Test.YtalmhjlkdhlbiaaGreatDoorProg
set_option maxRecDepth 100000
noncomputable section
set_option maxHeartbeats 0
namespace Go.Ev
open Go.Proofs
noncomputable def cd (n:Nat):aq:=match (Tryz.prog.funcs[n]?).bind (je Tryz.prog n) with|some (.code _ _ c)=>c|_=>.bad
def hd:Nat->aq->aq
 | 0,.seq a _=>a
 | n+1,.seq _ b=>hd n b
 | _,c=>c
def cl:aq->List aq
 | .seq a b=>cl a++cl b
 | .cond _ a b=>cl a++cl b
 | .block _ a=>cl a
 | .loop a=>[a]
 | _=>[]
def lb (i:Nat) (c:aq):aq:=(cl c).getD i .bad
def rl:aq->List aq->(aq->List aq->aq)->aq
 | .seq a b,l,k=>rl a l λa l=>rl b l λb l=>k (.seq a b) l
 | .cond c a b,l,k=>rl a l λa l=>rl b l λb l=>k (.cond c a b) l
 | .block i a,l,k=>rl a l λa l=>k (.block i a) l
 | .loop _,x::l,k=>k (.loop x) l
 | c,l,k=>k c l
def lm (l:List aq) (c:aq):aq:=rl c l λc _=>c
def rp (i:Nat) (l:List aq) (c x:aq):aq:=.seq (lm l (hd i c)) x
def sp (i:Nat) (c x:aq):aq:=.seq (hd i c) x
abbrev oo (x:aq) {y:aq} (_:x=y):aq:=y
abbrev oA (x:aq->aq) {y:aq->aq} (_:x=y) (a:aq):aq:=y a
abbrev oB (x:aq->aq->aq) {y:aq->aq->aq} (_:x=y) (a b:aq):aq:=y a b
abbrev oD (x:aq->aq->aq->aq) {y:aq->aq->aq->aq} (_:x=y) (a b c:aq):aq:=y a b c
attribute [go_sem] oo oA oB oD
abbrev oP (d:Option Slot) (x:kP):tO:=⟨0,d,none,0,x⟩
abbrev lt3 (x y:Arg):kP:=.cmp 3 (.lt 9223372036854775808 18446744073709551616) x y
abbrev gt3 (x y:Arg):kP:=.cmp 3 (.gt 9223372036854775808 18446744073709551616) x y
abbrev ne3 (x y:Arg):kP:=.cmp 3 .ne x y
abbrev eq3 (x y:Arg):kP:=.cmp 3 .eq x y
abbrev ad3 (x y:Arg):kP:=.bin 3 3 (.add 18446744073709551616) x y
abbrev sb3 (x y:Arg):kP:=.bin 3 3 (.sub 18446744073709551616) x y
abbrev kI (k n:Nat):Arg:=.c (.int k n)
abbrev oM (d:Option Slot) (x:Arg):tO:=⟨0,d,none,0,.kU x⟩
abbrev oF (d:Option Slot) (n:Nat) (x:Arg):tO:=⟨0,d,none,0,.fW n x⟩
abbrev oL (d:Option Slot) (x:Arg):tO:=⟨0,d,none,0,.dm x⟩
abbrev oX (d:Option Slot) (x:Arg) (n:Nat):tO:=⟨0,d,none,0,.NW x n⟩
abbrev oN (d:Option Slot) (x:Arg):tO:=⟨0,d,none,0,.OI x⟩
abbrev oC (d:Option Slot) (f:Nat) (l:List Arg):tO:=⟨0,d,none,0,.call f l⟩
abbrev gF (a b c:I8):Option (Slot×Bool):=some (⟨a,b,c⟩,false)
abbrev gT (a b c:I8):Option (Slot×Bool):=some (⟨a,b,c⟩,true)
abbrev sR (l:List tO) (b:aq):aq:=.seq (.ux l) b
abbrev s000:Slot:=⟨.i0,.i0,.i0⟩
abbrev s001:Slot:=⟨.i0,.i0,.i1⟩
abbrev s002:Slot:=⟨.i0,.i0,.i2⟩
abbrev s003:Slot:=⟨.i0,.i0,.i3⟩
abbrev s004:Slot:=⟨.i0,.i0,.i4⟩
abbrev s005:Slot:=⟨.i0,.i0,.i5⟩
abbrev s006:Slot:=⟨.i0,.i0,.i6⟩
abbrev s007:Slot:=⟨.i0,.i0,.i7⟩
abbrev s010:Slot:=⟨.i0,.i1,.i0⟩
abbrev s011:Slot:=⟨.i0,.i1,.i1⟩
abbrev s012:Slot:=⟨.i0,.i1,.i2⟩
abbrev s013:Slot:=⟨.i0,.i1,.i3⟩
abbrev s014:Slot:=⟨.i0,.i1,.i4⟩
abbrev s015:Slot:=⟨.i0,.i1,.i5⟩
abbrev s016:Slot:=⟨.i0,.i1,.i6⟩
abbrev s017:Slot:=⟨.i0,.i1,.i7⟩
abbrev s020:Slot:=⟨.i0,.i2,.i0⟩
abbrev s021:Slot:=⟨.i0,.i2,.i1⟩
abbrev s022:Slot:=⟨.i0,.i2,.i2⟩
abbrev s023:Slot:=⟨.i0,.i2,.i3⟩
abbrev s024:Slot:=⟨.i0,.i2,.i4⟩
abbrev s025:Slot:=⟨.i0,.i2,.i5⟩
abbrev s026:Slot:=⟨.i0,.i2,.i6⟩
abbrev s027:Slot:=⟨.i0,.i2,.i7⟩
abbrev s030:Slot:=⟨.i0,.i3,.i0⟩
abbrev s031:Slot:=⟨.i0,.i3,.i1⟩
abbrev s032:Slot:=⟨.i0,.i3,.i2⟩
abbrev s033:Slot:=⟨.i0,.i3,.i3⟩
abbrev s034:Slot:=⟨.i0,.i3,.i4⟩
abbrev s035:Slot:=⟨.i0,.i3,.i5⟩
abbrev s036:Slot:=⟨.i0,.i3,.i6⟩
abbrev s037:Slot:=⟨.i0,.i3,.i7⟩
abbrev s040:Slot:=⟨.i0,.i4,.i0⟩
abbrev s041:Slot:=⟨.i0,.i4,.i1⟩
abbrev s042:Slot:=⟨.i0,.i4,.i2⟩
abbrev s043:Slot:=⟨.i0,.i4,.i3⟩
abbrev s044:Slot:=⟨.i0,.i4,.i4⟩
abbrev s045:Slot:=⟨.i0,.i4,.i5⟩
abbrev s046:Slot:=⟨.i0,.i4,.i6⟩
abbrev s047:Slot:=⟨.i0,.i4,.i7⟩
abbrev s050:Slot:=⟨.i0,.i5,.i0⟩
abbrev s051:Slot:=⟨.i0,.i5,.i1⟩
abbrev s052:Slot:=⟨.i0,.i5,.i2⟩
abbrev s053:Slot:=⟨.i0,.i5,.i3⟩
abbrev s054:Slot:=⟨.i0,.i5,.i4⟩
abbrev s055:Slot:=⟨.i0,.i5,.i5⟩
abbrev s056:Slot:=⟨.i0,.i5,.i6⟩
abbrev s057:Slot:=⟨.i0,.i5,.i7⟩
abbrev s060:Slot:=⟨.i0,.i6,.i0⟩
abbrev s061:Slot:=⟨.i0,.i6,.i1⟩
abbrev s062:Slot:=⟨.i0,.i6,.i2⟩
abbrev s063:Slot:=⟨.i0,.i6,.i3⟩
abbrev s064:Slot:=⟨.i0,.i6,.i4⟩
abbrev s065:Slot:=⟨.i0,.i6,.i5⟩
abbrev s066:Slot:=⟨.i0,.i6,.i6⟩
abbrev s067:Slot:=⟨.i0,.i6,.i7⟩
abbrev s070:Slot:=⟨.i0,.i7,.i0⟩
abbrev s071:Slot:=⟨.i0,.i7,.i1⟩
abbrev s072:Slot:=⟨.i0,.i7,.i2⟩
abbrev s073:Slot:=⟨.i0,.i7,.i3⟩
abbrev s074:Slot:=⟨.i0,.i7,.i4⟩
abbrev s075:Slot:=⟨.i0,.i7,.i5⟩
abbrev s076:Slot:=⟨.i0,.i7,.i6⟩
abbrev s077:Slot:=⟨.i0,.i7,.i7⟩
abbrev s100:Slot:=⟨.i1,.i0,.i0⟩
abbrev s101:Slot:=⟨.i1,.i0,.i1⟩
abbrev s102:Slot:=⟨.i1,.i0,.i2⟩
abbrev s103:Slot:=⟨.i1,.i0,.i3⟩
abbrev s104:Slot:=⟨.i1,.i0,.i4⟩
abbrev s105:Slot:=⟨.i1,.i0,.i5⟩
abbrev s106:Slot:=⟨.i1,.i0,.i6⟩
abbrev s107:Slot:=⟨.i1,.i0,.i7⟩
abbrev s110:Slot:=⟨.i1,.i1,.i0⟩
abbrev s111:Slot:=⟨.i1,.i1,.i1⟩
abbrev s112:Slot:=⟨.i1,.i1,.i2⟩
abbrev s113:Slot:=⟨.i1,.i1,.i3⟩
abbrev s114:Slot:=⟨.i1,.i1,.i4⟩
abbrev s115:Slot:=⟨.i1,.i1,.i5⟩
abbrev s116:Slot:=⟨.i1,.i1,.i6⟩
abbrev s117:Slot:=⟨.i1,.i1,.i7⟩
abbrev s120:Slot:=⟨.i1,.i2,.i0⟩
abbrev s121:Slot:=⟨.i1,.i2,.i1⟩
abbrev s122:Slot:=⟨.i1,.i2,.i2⟩
abbrev s123:Slot:=⟨.i1,.i2,.i3⟩
abbrev s124:Slot:=⟨.i1,.i2,.i4⟩
abbrev s125:Slot:=⟨.i1,.i2,.i5⟩
abbrev s126:Slot:=⟨.i1,.i2,.i6⟩
abbrev s127:Slot:=⟨.i1,.i2,.i7⟩
abbrev s130:Slot:=⟨.i1,.i3,.i0⟩
abbrev s131:Slot:=⟨.i1,.i3,.i1⟩
abbrev s132:Slot:=⟨.i1,.i3,.i2⟩
abbrev s133:Slot:=⟨.i1,.i3,.i3⟩
abbrev s134:Slot:=⟨.i1,.i3,.i4⟩
abbrev s135:Slot:=⟨.i1,.i3,.i5⟩
abbrev s136:Slot:=⟨.i1,.i3,.i6⟩
abbrev s137:Slot:=⟨.i1,.i3,.i7⟩
abbrev s140:Slot:=⟨.i1,.i4,.i0⟩
abbrev s141:Slot:=⟨.i1,.i4,.i1⟩
abbrev s142:Slot:=⟨.i1,.i4,.i2⟩
abbrev s143:Slot:=⟨.i1,.i4,.i3⟩
abbrev s144:Slot:=⟨.i1,.i4,.i4⟩
abbrev s145:Slot:=⟨.i1,.i4,.i5⟩
abbrev s146:Slot:=⟨.i1,.i4,.i6⟩
abbrev s147:Slot:=⟨.i1,.i4,.i7⟩
abbrev s150:Slot:=⟨.i1,.i5,.i0⟩
abbrev s151:Slot:=⟨.i1,.i5,.i1⟩
abbrev s152:Slot:=⟨.i1,.i5,.i2⟩
abbrev s153:Slot:=⟨.i1,.i5,.i3⟩
abbrev s154:Slot:=⟨.i1,.i5,.i4⟩
abbrev s155:Slot:=⟨.i1,.i5,.i5⟩
abbrev s156:Slot:=⟨.i1,.i5,.i6⟩
abbrev s157:Slot:=⟨.i1,.i5,.i7⟩
abbrev s160:Slot:=⟨.i1,.i6,.i0⟩
abbrev s161:Slot:=⟨.i1,.i6,.i1⟩
abbrev s162:Slot:=⟨.i1,.i6,.i2⟩
abbrev s163:Slot:=⟨.i1,.i6,.i3⟩
abbrev s164:Slot:=⟨.i1,.i6,.i4⟩
abbrev s165:Slot:=⟨.i1,.i6,.i5⟩
abbrev s166:Slot:=⟨.i1,.i6,.i6⟩
abbrev s167:Slot:=⟨.i1,.i6,.i7⟩
abbrev s170:Slot:=⟨.i1,.i7,.i0⟩
abbrev s171:Slot:=⟨.i1,.i7,.i1⟩
abbrev s172:Slot:=⟨.i1,.i7,.i2⟩
abbrev s173:Slot:=⟨.i1,.i7,.i3⟩
abbrev s174:Slot:=⟨.i1,.i7,.i4⟩
abbrev s175:Slot:=⟨.i1,.i7,.i5⟩
abbrev s176:Slot:=⟨.i1,.i7,.i6⟩
abbrev s177:Slot:=⟨.i1,.i7,.i7⟩
abbrev s200:Slot:=⟨.i2,.i0,.i0⟩
abbrev s201:Slot:=⟨.i2,.i0,.i1⟩
abbrev s202:Slot:=⟨.i2,.i0,.i2⟩
abbrev s203:Slot:=⟨.i2,.i0,.i3⟩
abbrev s204:Slot:=⟨.i2,.i0,.i4⟩
abbrev s205:Slot:=⟨.i2,.i0,.i5⟩
abbrev s206:Slot:=⟨.i2,.i0,.i6⟩
abbrev s207:Slot:=⟨.i2,.i0,.i7⟩
abbrev s210:Slot:=⟨.i2,.i1,.i0⟩
abbrev s211:Slot:=⟨.i2,.i1,.i1⟩
abbrev s212:Slot:=⟨.i2,.i1,.i2⟩
abbrev s213:Slot:=⟨.i2,.i1,.i3⟩
abbrev s214:Slot:=⟨.i2,.i1,.i4⟩
abbrev s215:Slot:=⟨.i2,.i1,.i5⟩
abbrev s216:Slot:=⟨.i2,.i1,.i6⟩
abbrev s217:Slot:=⟨.i2,.i1,.i7⟩
abbrev s220:Slot:=⟨.i2,.i2,.i0⟩
abbrev s221:Slot:=⟨.i2,.i2,.i1⟩
abbrev s222:Slot:=⟨.i2,.i2,.i2⟩
abbrev s223:Slot:=⟨.i2,.i2,.i3⟩
abbrev s224:Slot:=⟨.i2,.i2,.i4⟩
abbrev s225:Slot:=⟨.i2,.i2,.i5⟩
abbrev s226:Slot:=⟨.i2,.i2,.i6⟩
abbrev s227:Slot:=⟨.i2,.i2,.i7⟩
abbrev s230:Slot:=⟨.i2,.i3,.i0⟩
abbrev s231:Slot:=⟨.i2,.i3,.i1⟩
abbrev s232:Slot:=⟨.i2,.i3,.i2⟩
abbrev s233:Slot:=⟨.i2,.i3,.i3⟩
abbrev s234:Slot:=⟨.i2,.i3,.i4⟩
abbrev s235:Slot:=⟨.i2,.i3,.i5⟩
abbrev s236:Slot:=⟨.i2,.i3,.i6⟩
abbrev s237:Slot:=⟨.i2,.i3,.i7⟩
abbrev s240:Slot:=⟨.i2,.i4,.i0⟩
abbrev s241:Slot:=⟨.i2,.i4,.i1⟩
abbrev s242:Slot:=⟨.i2,.i4,.i2⟩
abbrev s243:Slot:=⟨.i2,.i4,.i3⟩
abbrev s244:Slot:=⟨.i2,.i4,.i4⟩
abbrev s245:Slot:=⟨.i2,.i4,.i5⟩
abbrev s246:Slot:=⟨.i2,.i4,.i6⟩
abbrev s247:Slot:=⟨.i2,.i4,.i7⟩
abbrev s250:Slot:=⟨.i2,.i5,.i0⟩
abbrev s251:Slot:=⟨.i2,.i5,.i1⟩
abbrev s252:Slot:=⟨.i2,.i5,.i2⟩
abbrev s253:Slot:=⟨.i2,.i5,.i3⟩
abbrev s254:Slot:=⟨.i2,.i5,.i4⟩
abbrev s255:Slot:=⟨.i2,.i5,.i5⟩
abbrev s256:Slot:=⟨.i2,.i5,.i6⟩
abbrev s257:Slot:=⟨.i2,.i5,.i7⟩
abbrev s260:Slot:=⟨.i2,.i6,.i0⟩
abbrev s261:Slot:=⟨.i2,.i6,.i1⟩
abbrev s262:Slot:=⟨.i2,.i6,.i2⟩
abbrev s263:Slot:=⟨.i2,.i6,.i3⟩
abbrev s264:Slot:=⟨.i2,.i6,.i4⟩
abbrev s265:Slot:=⟨.i2,.i6,.i5⟩
abbrev s266:Slot:=⟨.i2,.i6,.i6⟩
abbrev s267:Slot:=⟨.i2,.i6,.i7⟩
abbrev s270:Slot:=⟨.i2,.i7,.i0⟩
abbrev s271:Slot:=⟨.i2,.i7,.i1⟩
abbrev s272:Slot:=⟨.i2,.i7,.i2⟩
abbrev s273:Slot:=⟨.i2,.i7,.i3⟩
abbrev s274:Slot:=⟨.i2,.i7,.i4⟩
abbrev s275:Slot:=⟨.i2,.i7,.i5⟩
abbrev s276:Slot:=⟨.i2,.i7,.i6⟩
abbrev s277:Slot:=⟨.i2,.i7,.i7⟩
abbrev s300:Slot:=⟨.i3,.i0,.i0⟩
abbrev s301:Slot:=⟨.i3,.i0,.i1⟩
abbrev s302:Slot:=⟨.i3,.i0,.i2⟩
abbrev s303:Slot:=⟨.i3,.i0,.i3⟩
abbrev s304:Slot:=⟨.i3,.i0,.i4⟩
abbrev s305:Slot:=⟨.i3,.i0,.i5⟩
abbrev s306:Slot:=⟨.i3,.i0,.i6⟩
abbrev s307:Slot:=⟨.i3,.i0,.i7⟩
abbrev s310:Slot:=⟨.i3,.i1,.i0⟩
abbrev s311:Slot:=⟨.i3,.i1,.i1⟩
abbrev nJ:Arg:=.s s000
abbrev qX:Arg:=.s s001
abbrev Rg:Arg:=.s s002
abbrev jJ:Arg:=.s s003
abbrev jK:Arg:=.s s004
abbrev gu:Arg:=.s s005
abbrev nx:Arg:=.s s006
abbrev nK:Arg:=.s s007
abbrev pP:Arg:=.s s010
abbrev lI:Arg:=.s s011
abbrev qo:Arg:=.s s012
abbrev qp:Arg:=.s s013
abbrev qt:Arg:=.s s014
abbrev uH:Arg:=.s s015
abbrev sG:Arg:=.s s016
abbrev pQ:Arg:=.s s017
abbrev zZ:Arg:=.s s020
abbrev uI:Arg:=.s s021
abbrev uJ:Arg:=.s s022
abbrev sH:Arg:=.s s023
abbrev Aa:Arg:=.s s024
abbrev vN:Arg:=.s s025
abbrev xQ:Arg:=.s s026
abbrev uK:Arg:=.s s027
abbrev uL:Arg:=.s s030
abbrev Ab:Arg:=.s s031
abbrev xR:Arg:=.s s032
abbrev Ac:Arg:=.s s033
abbrev B4:Arg:=.s s034
abbrev Fh:Arg:=.s s035
abbrev Fi:Arg:=.s s036
abbrev Fj:Arg:=.s s037
abbrev Fk:Arg:=.s s040
abbrev Jw:Arg:=.s s041
abbrev LF:Arg:=.s s042
abbrev Fl:Arg:=.s s043
abbrev LG:Arg:=.s s044
abbrev LH:Arg:=.s s045
abbrev LI:Arg:=.s s046
abbrev LJ:Arg:=.s s047
abbrev LK:Arg:=.s s050
abbrev Jx:Arg:=.s s051
abbrev LL:Arg:=.s s052
abbrev LM:Arg:=.s s053
abbrev LN:Arg:=.s s054
abbrev LO:Arg:=.s s055
abbrev LP:Arg:=.s s056
abbrev LQ:Arg:=.s s057
abbrev LR:Arg:=.s s060
abbrev LU:Arg:=.s s061
abbrev LV:Arg:=.s s062
abbrev LW:Arg:=.s s063
abbrev LX:Arg:=.s s064
abbrev Rh:Arg:=.s s065
abbrev Ri:Arg:=.s s066
abbrev Rj:Arg:=.s s067
abbrev Rk:Arg:=.s s070
abbrev Rl:Arg:=.s s071
abbrev Rm:Arg:=.s s072
abbrev Rn:Arg:=.s s073
abbrev Ro:Arg:=.s s074
abbrev Rp:Arg:=.s s075
abbrev LY:Arg:=.s s076
abbrev Rq:Arg:=.s s077
abbrev Rr:Arg:=.s s100
abbrev Rs:Arg:=.s s101
abbrev Rt:Arg:=.s s102
abbrev Ru:Arg:=.s s103
abbrev Vs:Arg:=.s s104
abbrev a105:Arg:=.s s105
abbrev Vt:Arg:=.s s106
abbrev a107:Arg:=.s s107
abbrev ZN:Arg:=.s s110
abbrev ZO:Arg:=.s s111
abbrev ZP:Arg:=.s s112
abbrev ZQ:Arg:=.s s113
abbrev ZR:Arg:=.s s114
abbrev ZS:Arg:=.s s115
abbrev a116:Arg:=.s s116
abbrev a117:Arg:=.s s117
abbrev ZT:Arg:=.s s120
abbrev ZU:Arg:=.s s121
abbrev ZV:Arg:=.s s122
abbrev ZW:Arg:=.s s123
abbrev a124:Arg:=.s s124
abbrev acA:Arg:=.s s125
abbrev acB:Arg:=.s s126
abbrev a127:Arg:=.s s127
abbrev a130:Arg:=.s s130
abbrev a131:Arg:=.s s131
abbrev acC:Arg:=.s s132
abbrev acD:Arg:=.s s133
abbrev afO:Arg:=.s s134
abbrev acE:Arg:=.s s135
abbrev acF:Arg:=.s s136
abbrev acG:Arg:=.s s137
abbrev afP:Arg:=.s s140
abbrev a141:Arg:=.s s141
abbrev acH:Arg:=.s s142
abbrev a143:Arg:=.s s143
abbrev acI:Arg:=.s s144
abbrev a145:Arg:=.s s145
abbrev a146:Arg:=.s s146
abbrev acJ:Arg:=.s s147
abbrev acK:Arg:=.s s150
abbrev acL:Arg:=.s s151
abbrev a152:Arg:=.s s152
abbrev acM:Arg:=.s s153
abbrev a154:Arg:=.s s154
abbrev acN:Arg:=.s s155
abbrev a156:Arg:=.s s156
abbrev a157:Arg:=.s s157
abbrev a160:Arg:=.s s160
abbrev acO:Arg:=.s s161
abbrev a162:Arg:=.s s162
abbrev acP:Arg:=.s s163
abbrev a164:Arg:=.s s164
abbrev acQ:Arg:=.s s165
abbrev acR:Arg:=.s s166
abbrev a167:Arg:=.s s167
abbrev acS:Arg:=.s s170
abbrev a171:Arg:=.s s171
abbrev acT:Arg:=.s s172
abbrev a173:Arg:=.s s173
abbrev acU:Arg:=.s s174
abbrev a175:Arg:=.s s175
abbrev acV:Arg:=.s s176
abbrev acW:Arg:=.s s177
abbrev acX:Arg:=.s s200
abbrev a201:Arg:=.s s201
abbrev acY:Arg:=.s s202
abbrev a203:Arg:=.s s203
abbrev acZ:Arg:=.s s204
abbrev ac0:Arg:=.s s205
abbrev a206:Arg:=.s s206
abbrev ac1:Arg:=.s s207
abbrev a210:Arg:=.s s210
abbrev ac2:Arg:=.s s211
abbrev a212:Arg:=.s s212
abbrev a213:Arg:=.s s213
abbrev ac3:Arg:=.s s214
abbrev ac4:Arg:=.s s215
abbrev ac5:Arg:=.s s216
abbrev ac6:Arg:=.s s217
abbrev ac7:Arg:=.s s220
abbrev ac8:Arg:=.s s221
abbrev a222:Arg:=.s s222
abbrev ac9:Arg:=.s s223
abbrev ada:Arg:=.s s224
abbrev adb:Arg:=.s s225
abbrev a226:Arg:=.s s226
abbrev a227:Arg:=.s s227
abbrev ade:Arg:=.s s230
abbrev adf:Arg:=.s s231
abbrev a232:Arg:=.s s232
abbrev a233:Arg:=.s s233
abbrev a234:Arg:=.s s234
abbrev adg:Arg:=.s s235
abbrev a236:Arg:=.s s236
abbrev adh:Arg:=.s s237
abbrev adi:Arg:=.s s240
abbrev adj:Arg:=.s s241
abbrev adk:Arg:=.s s242
abbrev adl:Arg:=.s s243
abbrev adm:Arg:=.s s244
abbrev adn:Arg:=.s s245
abbrev ado:Arg:=.s s246
abbrev adp:Arg:=.s s247
abbrev adq:Arg:=.s s250
abbrev adr:Arg:=.s s251
abbrev ads:Arg:=.s s252
abbrev adt:Arg:=.s s253
abbrev adu:Arg:=.s s254
abbrev adw:Arg:=.s s255
abbrev adx:Arg:=.s s256
abbrev ady:Arg:=.s s257
abbrev adz:Arg:=.s s260
abbrev adA:Arg:=.s s261
abbrev adB:Arg:=.s s262
abbrev adD:Arg:=.s s263
abbrev adE:Arg:=.s s264
abbrev adF:Arg:=.s s265
abbrev adG:Arg:=.s s266
abbrev adH:Arg:=.s s267
abbrev adI:Arg:=.s s270
abbrev adJ:Arg:=.s s271
abbrev adK:Arg:=.s s272
abbrev adL:Arg:=.s s273
abbrev adM:Arg:=.s s274
abbrev adN:Arg:=.s s275
abbrev adO:Arg:=.s s276
abbrev adP:Arg:=.s s277
abbrev adQ:Arg:=.s s300
abbrev adR:Arg:=.s s301
abbrev adS:Arg:=.s s302
abbrev adT:Arg:=.s s303
abbrev adU:Arg:=.s s304
abbrev adW:Arg:=.s s305
abbrev adX:Arg:=.s s306
abbrev adY:Arg:=.s s307
abbrev adZ:Arg:=.s s310
abbrev ad0:Arg:=.s s311
abbrev afS:Option Slot:=some s000
abbrev aej:Option Slot:=some s001
abbrev sW:Option Slot:=some s002
abbrev xV:Option Slot:=some s003
abbrev qy:Option Slot:=some s004
abbrev nC:Option Slot:=some s005
abbrev sX:Option Slot:=some s006
abbrev sY:Option Slot:=some s007
abbrev rB:Option Slot:=some s010
abbrev wk:Option Slot:=some s011
abbrev xW:Option Slot:=some s012
abbrev xX:Option Slot:=some s013
abbrev Ax:Option Slot:=some s014
abbrev Ay:Option Slot:=some s015
abbrev Az:Option Slot:=some s016
abbrev xY:Option Slot:=some s017
abbrev CM:Option Slot:=some s020
abbrev xZ:Option Slot:=some s021
abbrev CN:Option Slot:=some s022
abbrev AA:Option Slot:=some s023
abbrev AB:Option Slot:=some s024
abbrev AE:Option Slot:=some s025
abbrev AF:Option Slot:=some s026
abbrev x9:Option Slot:=some s027
abbrev AG:Option Slot:=some s030
abbrev AH:Option Slot:=some s031
abbrev CO:Option Slot:=some s032
abbrev CP:Option Slot:=some s033
abbrev CR:Option Slot:=some s034
abbrev FG:Option Slot:=some s035
abbrev FH:Option Slot:=some s036
abbrev FJ:Option Slot:=some s037
abbrev FK:Option Slot:=some s040
abbrev MX:Option Slot:=some s041
abbrev MY:Option Slot:=some s042
abbrev JK:Option Slot:=some s043
abbrev MZ:Option Slot:=some s044
abbrev M1:Option Slot:=some s045
abbrev M8:Option Slot:=some s046
abbrev M9:Option Slot:=some s047
abbrev Na:Option Slot:=some s050
abbrev Nb:Option Slot:=some s051
abbrev Nc:Option Slot:=some s052
abbrev Nd:Option Slot:=some s053
abbrev Nf:Option Slot:=some s054
abbrev Ng:Option Slot:=some s055
abbrev Nh:Option Slot:=some s056
abbrev Ni:Option Slot:=some s057
abbrev Nj:Option Slot:=some s060
abbrev Nk:Option Slot:=some s061
abbrev Nl:Option Slot:=some s062
abbrev Nn:Option Slot:=some s063
abbrev Np:Option Slot:=some s064
abbrev RX:Option Slot:=some s065
abbrev RY:Option Slot:=some s066
abbrev RZ:Option Slot:=some s067
abbrev Se:Option Slot:=some s070
abbrev Sf:Option Slot:=some s071
abbrev Sg:Option Slot:=some s072
abbrev Sh:Option Slot:=some s073
abbrev Si:Option Slot:=some s074
abbrev Sj:Option Slot:=some s075
abbrev Sk:Option Slot:=some s076
abbrev Sl:Option Slot:=some s077
abbrev d100:Option Slot:=some s100
abbrev d101:Option Slot:=some s101
abbrev d102:Option Slot:=some s102
abbrev d103:Option Slot:=some s103
abbrev d104:Option Slot:=some s104
abbrev d105:Option Slot:=some s105
abbrev d106:Option Slot:=some s106
abbrev d107:Option Slot:=some s107
abbrev d110:Option Slot:=some s110
abbrev d111:Option Slot:=some s111
abbrev d112:Option Slot:=some s112
abbrev d113:Option Slot:=some s113
abbrev d114:Option Slot:=some s114
abbrev d115:Option Slot:=some s115
abbrev d116:Option Slot:=some s116
abbrev d117:Option Slot:=some s117
abbrev d120:Option Slot:=some s120
abbrev d121:Option Slot:=some s121
abbrev d122:Option Slot:=some s122
abbrev d123:Option Slot:=some s123
abbrev d124:Option Slot:=some s124
abbrev d125:Option Slot:=some s125
abbrev d126:Option Slot:=some s126
abbrev d127:Option Slot:=some s127
abbrev d130:Option Slot:=some s130
abbrev d131:Option Slot:=some s131
abbrev d132:Option Slot:=some s132
abbrev d133:Option Slot:=some s133
abbrev d134:Option Slot:=some s134
abbrev d135:Option Slot:=some s135
abbrev d136:Option Slot:=some s136
abbrev d137:Option Slot:=some s137
abbrev d140:Option Slot:=some s140
abbrev d141:Option Slot:=some s141
abbrev d142:Option Slot:=some s142
abbrev d143:Option Slot:=some s143
abbrev d144:Option Slot:=some s144
abbrev d145:Option Slot:=some s145
abbrev d146:Option Slot:=some s146
abbrev d147:Option Slot:=some s147
abbrev d150:Option Slot:=some s150
abbrev d151:Option Slot:=some s151
abbrev d152:Option Slot:=some s152
abbrev d153:Option Slot:=some s153
abbrev d154:Option Slot:=some s154
abbrev d155:Option Slot:=some s155
abbrev d156:Option Slot:=some s156
abbrev d157:Option Slot:=some s157
abbrev d160:Option Slot:=some s160
abbrev d161:Option Slot:=some s161
abbrev d162:Option Slot:=some s162
abbrev d163:Option Slot:=some s163
abbrev d164:Option Slot:=some s164
abbrev d165:Option Slot:=some s165
abbrev d166:Option Slot:=some s166
abbrev d167:Option Slot:=some s167
abbrev d170:Option Slot:=some s170
abbrev d171:Option Slot:=some s171
abbrev d172:Option Slot:=some s172
abbrev d173:Option Slot:=some s173
abbrev d174:Option Slot:=some s174
abbrev d175:Option Slot:=some s175
abbrev d176:Option Slot:=some s176
abbrev d177:Option Slot:=some s177
abbrev d200:Option Slot:=some s200
abbrev d201:Option Slot:=some s201
abbrev d202:Option Slot:=some s202
abbrev d203:Option Slot:=some s203
abbrev d204:Option Slot:=some s204
abbrev d205:Option Slot:=some s205
abbrev d206:Option Slot:=some s206
abbrev d207:Option Slot:=some s207
abbrev d210:Option Slot:=some s210
abbrev d211:Option Slot:=some s211
abbrev d212:Option Slot:=some s212
abbrev d213:Option Slot:=some s213
abbrev d214:Option Slot:=some s214
abbrev d215:Option Slot:=some s215
abbrev d216:Option Slot:=some s216
abbrev d217:Option Slot:=some s217
abbrev d220:Option Slot:=some s220
abbrev d221:Option Slot:=some s221
abbrev d222:Option Slot:=some s222
abbrev d223:Option Slot:=some s223
abbrev d224:Option Slot:=some s224
abbrev d225:Option Slot:=some s225
abbrev d226:Option Slot:=some s226
abbrev d227:Option Slot:=some s227
abbrev d230:Option Slot:=some s230
abbrev d231:Option Slot:=some s231
abbrev d232:Option Slot:=some s232
abbrev d233:Option Slot:=some s233
abbrev d234:Option Slot:=some s234
abbrev d235:Option Slot:=some s235
abbrev d236:Option Slot:=some s236
abbrev d237:Option Slot:=some s237
abbrev d240:Option Slot:=some s240
abbrev d241:Option Slot:=some s241
abbrev d242:Option Slot:=some s242
abbrev d243:Option Slot:=some s243
abbrev d244:Option Slot:=some s244
abbrev d245:Option Slot:=some s245
abbrev d246:Option Slot:=some s246
abbrev d247:Option Slot:=some s247
abbrev d250:Option Slot:=some s250
abbrev d251:Option Slot:=some s251
abbrev d252:Option Slot:=some s252
abbrev d253:Option Slot:=some s253
abbrev d254:Option Slot:=some s254
abbrev d255:Option Slot:=some s255
abbrev d256:Option Slot:=some s256
abbrev d257:Option Slot:=some s257
abbrev d260:Option Slot:=some s260
abbrev d261:Option Slot:=some s261
abbrev d262:Option Slot:=some s262
abbrev d263:Option Slot:=some s263
abbrev d264:Option Slot:=some s264
abbrev d265:Option Slot:=some s265
abbrev d266:Option Slot:=some s266
abbrev d267:Option Slot:=some s267
abbrev d270:Option Slot:=some s270
abbrev d271:Option Slot:=some s271
abbrev d272:Option Slot:=some s272
abbrev d273:Option Slot:=some s273
abbrev d274:Option Slot:=some s274
abbrev d275:Option Slot:=some s275
abbrev d276:Option Slot:=some s276
abbrev d277:Option Slot:=some s277
abbrev d300:Option Slot:=some s300
abbrev d301:Option Slot:=some s301
abbrev d302:Option Slot:=some s302
abbrev d303:Option Slot:=some s303
abbrev d304:Option Slot:=some s304
abbrev d305:Option Slot:=some s305
abbrev d306:Option Slot:=some s306
abbrev d307:Option Slot:=some s307
abbrev d310:Option Slot:=some s310
abbrev d311:Option Slot:=some s311
def FA:aq:=(.seq (sR [oM d105 uI,oM d106 pP,oP d107 (.eR Vt),oP d110 (lt3 a105 a107),oM d111 ZN,⟨0,d112,(gT .i1 .i1 .i1),0,(.kU uI)⟩,⟨0,d113,(gT .i1 .i1 .i1),0,(lt3 ZP (kI 3 10))⟩,oP d114 (.pick ZO ZQ (.c (.bool false)))] (.cond ZR .skip (.exit 0))) (.seq (.block 1 (sR [oM d117 lI,oP d120 (.cM 4 qp),oC d121 20 [a117,ZT],oP CN (.lD [(.int 3 0),(.int 7 0),(.int 3 0),(.int 7 0),.aw,(.int 3 0),(.bool false),(.int 3 0),(.int 3 0),(.int 7 0),(.int 3 0),(.bool false),.aw,(.int 3 0),(.int 7 0),(.int 7 0),(.int 7 0),(.int 7 0),(.int 3 0),(.int 7 0),(.int 7 0),(.int 7 0),(.int 7 0),(.int 3 0),(.int 3 0),.aw]),oP none (.fv 26 uJ ZU)] (sR [oM d122 pP,oM d123 uI,oP d124 (.A0 1 ZV ZW),oL d125 a124,oP d126 (.bin 4 4 (.rem 256) acA (kI 4 12)),oP d127 (.qb 4 3 0 18446744073709551616 acB),oF d130 13 uJ,oP none (.fu a130 a127)] (sR [oM d131 qo,oP d132 (.cM 4 qt),oP d133 (.cM 26 uJ),oC d134 22 [a131,acC,acD]] (.ux [oM d135 lI,oP d136 (.cM 4 qt),oP d137 (.cM 26 uJ),oC d140 22 [acE,acF,acG]]))))) (.ux [oM d115 uI,oP d116 (ad3 ZS (kI 3 1)),oM xZ a116])))
def Mv:aq:=(.seq (sR [oM d250 uK,oM d251 uH,oP d252 (.eR adr),oP d253 (lt3 adq ads)] (.cond adt .skip (.exit 2))) (.seq (.block 3 (.seq (.rD [oM d256 uH,oM d257 uK,oP d260 (.A0 2 adx ady),⟨0,d261,none,1,(.cM 2 adz)⟩,oM d262 xQ,oM d263 uK,oP d264 (.A0 2 adB adD),⟨0,d265,none,1,(.cM 2 adE)⟩,oP d266 (.jM [1,1] true adA adF)]) (.cond adG (sR [oP sX (.kU (.c (.bool false)))] .ret) .skip))) (.ux [oM d254 uK,oP d255 (ad3 adu (kI 3 1)),oM x9 adw])))
def UJ:aq:=.ret
def UI:aq:=(.seq (.rD [oF d271 4 uL,oL d272 adJ,oP d273 (eq3 adK (kI 3 0)),oM d274 adL,⟨0,d275,(gT .i2 .i7 .i4),0,(.fW 5 uL)⟩,⟨0,d276,(gT .i2 .i7 .i4),0,(.dm adN)⟩,⟨0,d277,(gT .i2 .i7 .i4),0,(eq3 adO (kI 3 0))⟩,oP d300 (.pick adM adP (.c (.bool false))),oM d301 adQ,⟨0,d302,(gT .i3 .i0 .i1),0,(.fW 2 uL)⟩,⟨0,d303,(gT .i3 .i0 .i1),1,(.cM 2 adS)⟩,⟨0,d304,(gT .i3 .i0 .i1),1,(.call 26 [(kI 7 0),(kI 7 0)])⟩,⟨0,d305,(gT .i3 .i0 .i1),0,(.jM [1,1] false adT adU)⟩,oP d306 (.pick adR adW (.c (.bool false))),oM d307 adX,⟨0,d310,(gT .i3 .i0 .i7),0,(.call 14 [])⟩,oP d311 (.pick adY adZ (.c (.bool false))),oM sX ad0]) UJ)
def UH:aq:=(sR [oM d267 qo,oC d270 24 [adH],oP AG (.lD [(.int 7 0),(.int 7 0),(.int 7 0),(.int 7 0),(.int 3 0),(.int 3 0),.aw]),oP none (.fv 7 uL adI)] UI)
def UG:aq:=(.seq (sR [oM x9 (kI 3 0)] (.block 2 (.loop Mv))) UH)
def rv:aq:=(.seq (.seq (.rD [oF d155 0 pQ,⟨0,d156,none,1,(.dm acN)⟩,oF d157 0 sH,⟨0,d160,none,1,(.dm a157)⟩,oP d161 (ne3 a156 a160),oM d162 acO,⟨0,d163,(gF .i1 .i6 .i2),0,(.kU zZ)⟩,⟨0,d164,(gF .i1 .i6 .i2),0,(.kU Aa)⟩,⟨0,d165,(gF .i1 .i6 .i2),0,(ne3 acP a164)⟩,oP d166 (.pick a162 (.c (.bool true)) acQ),oM d167 acR,⟨0,d170,(gF .i1 .i6 .i7),0,(.fW 19 pQ)⟩,⟨0,d171,(gF .i1 .i6 .i7),0,(.fW 2 acS)⟩,⟨0,d172,(gF .i1 .i6 .i7),1,(.cM 2 a171)⟩,⟨0,d173,(gF .i1 .i6 .i7),0,(.fW 19 sH)⟩,⟨0,d174,(gF .i1 .i6 .i7),0,(.fW 2 a173)⟩,⟨0,d175,(gF .i1 .i6 .i7),1,(.cM 2 acU)⟩,⟨0,d176,(gF .i1 .i6 .i7),0,(.jM [1,1] true acT a175)⟩,oP d177 (.pick a167 (.c (.bool true)) acV),oM d200 acW,⟨0,d201,(gF .i2 .i0 .i0),0,(.fW 19 pQ)⟩,⟨0,d202,(gF .i2 .i0 .i0),0,(.fW 4 a201)⟩,⟨0,d203,(gF .i2 .i0 .i0),1,(.dm acY)⟩,⟨0,d204,(gF .i2 .i0 .i0),0,(.fW 19 sH)⟩,⟨0,d205,(gF .i2 .i0 .i0),0,(.fW 4 acZ)⟩,⟨0,d206,(gF .i2 .i0 .i0),1,(.dm ac0)⟩,⟨0,d207,(gF .i2 .i0 .i0),0,(ne3 a203 a206)⟩,oP d210 (.pick acX (.c (.bool true)) ac1),oM d211 a210,⟨0,d212,(gF .i2 .i1 .i1),0,(.fW 19 pQ)⟩,⟨0,d213,(gF .i2 .i1 .i1),0,(.fW 6 a212)⟩,⟨0,d214,(gF .i2 .i1 .i1),1,(.dm a213)⟩,⟨0,d215,(gF .i2 .i1 .i1),1,(.eR ac3)⟩,⟨0,d216,(gF .i2 .i1 .i1),0,(.fW 19 sH)⟩,⟨0,d217,(gF .i2 .i1 .i1),0,(.fW 6 ac5)⟩,⟨0,d220,(gF .i2 .i1 .i1),1,(.dm ac6)⟩,⟨0,d221,(gF .i2 .i1 .i1),1,(.eR ac7)⟩,⟨0,d222,(gF .i2 .i1 .i1),0,(ne3 ac4 ac8)⟩,oP d223 (.pick ac2 (.c (.bool true)) a222),oM d224 ac9,⟨0,d225,(gF .i2 .i2 .i4),0,(.fW 0 vN)⟩,⟨0,d226,(gF .i2 .i2 .i4),0,(.dm adb)⟩,⟨0,d227,(gF .i2 .i2 .i4),0,(ne3 a226 (kI 3 5))⟩,oP d230 (.pick ada (.c (.bool true)) a227),oM d231 ade,⟨0,d232,(gF .i2 .i3 .i1),0,(.fW 13 vN)⟩,⟨0,d233,(gF .i2 .i3 .i1),1,(.dm a232)⟩,⟨0,d234,(gF .i2 .i3 .i1),0,(.kU qo)⟩,⟨0,d235,(gF .i2 .i3 .i1),1,(.call 16 [a234])⟩,⟨0,d236,(gF .i2 .i3 .i1),1,(.eR adg)⟩,⟨0,d237,(gF .i2 .i3 .i1),0,(ne3 a233 a236)⟩,oP d240 (.pick adf (.c (.bool true)) adh),oM d241 adi,⟨0,d242,(gF .i2 .i4 .i1),0,(.kU uH)⟩,⟨0,d243,(gF .i2 .i4 .i1),1,(.eR adk)⟩,⟨0,d244,(gF .i2 .i4 .i1),0,(.kU xQ)⟩,⟨0,d245,(gF .i2 .i4 .i1),1,(.eR adm)⟩,⟨0,d246,(gF .i2 .i4 .i1),0,(ne3 adl adn)⟩,oP d247 (.pick adj (.c (.bool true)) ado)]) (.cond adp (sR [oP sX (.kU (.c (.bool false)))] .ret) .skip)) UG)
def UF:aq:=(sR [oM d153 lI,oC d154 16 [acM],oM AF a154] rv)
def UE:aq:=(sR [oM d150 qo,oP d151 (.cM 4 qt),oC d152 20 [acK,acL],oP AE (.lD [(.int 3 0),(.int 7 0),(.int 3 0),(.int 7 0),.aw,(.int 3 0),(.bool false),(.int 3 0),(.int 3 0),(.int 7 0),(.int 3 0),(.bool false),.aw,(.int 3 0),(.int 7 0),(.int 7 0),(.int 7 0),(.int 7 0),(.int 3 0),(.int 7 0),(.int 7 0),(.int 7 0),(.int 7 0),(.int 3 0),(.int 3 0),.aw]),oP none (.fv 26 vN a152)] UF)
def Mx:aq:=(sR [oM d142 lI,oP d143 (.cM 4 qp),oP d144 (.cM 26 sG),oC d145 22 [acH,a143,acI],oM d141 a145,oX d146 a141 0,oX d147 a141 1,oP AA (.lD [(.int 3 0),(.int 7 0),(.int 3 0),(.int 7 0),.aw,(.int 3 0),(.bool false),(.int 3 0),(.int 3 0),(.int 7 0),(.int 3 0),(.bool false),.aw,(.int 3 0),(.int 7 0),(.int 7 0),(.int 7 0),(.int 7 0),(.int 3 0),(.int 7 0),(.int 7 0),(.int 7 0),(.int 7 0),(.int 3 0),(.int 3 0),.aw]),oP none (.fv 26 sH a146),oM AB acJ] UE)
def Mw:aq:=(.seq (sR [oM xZ (kI 3 0)] (.block 0 (.loop FA))) Mx)
def V3:aq:=(sR [oM Sl lI,oP d100 (.cM 4 qp),oP d101 (.cM 26 sG),oC d102 22 [Rq,Rr,Rs],oM Sk Rt,oX d103 LY 0,oX d104 LY 1,oP xY (.lD [(.int 3 0),(.int 7 0),(.int 3 0),(.int 7 0),.aw,(.int 3 0),(.bool false),(.int 3 0),(.int 3 0),(.int 7 0),(.int 3 0),(.bool false),.aw,(.int 3 0),(.int 7 0),(.int 7 0),(.int 7 0),(.int 7 0),(.int 3 0),(.int 7 0),(.int 7 0),(.int 7 0),(.int 7 0),(.int 3 0),(.int 3 0),.aw]),oP none (.fv 26 pQ Ru),oM CM Vs] Mw)
def RU:aq:=(.seq (sR [oM RZ nK,oP Se (.bin 4 4 (.rem 256) Rj (kI 4 3)),oP Sf (.cmp 4 .eq Rk (kI 4 0))] (.cond Rl (.ux [oM Sg nK,oP Sh (.bin 4 4 (.quo 256) Rm (kI 4 3)),oP Si (.qb 4 3 0 18446744073709551616 Rn),oF Sj 13 sG,oP none (.fu Rp Ro)]) .skip)) V3)
def aaw:aq:=(sR [oM Np qo,oP RX (.cM 4 qp),oC RY 20 [LX,Rh],oP Az (.lD [(.int 3 0),(.int 7 0),(.int 3 0),(.int 7 0),.aw,(.int 3 0),(.bool false),(.int 3 0),(.int 3 0),(.int 7 0),(.int 3 0),(.bool false),.aw,(.int 3 0),(.int 7 0),(.int 7 0),(.int 7 0),(.int 7 0),(.int 3 0),(.int 7 0),(.int 7 0),(.int 7 0),(.int 7 0),(.int 3 0),(.int 3 0),.aw]),oP none (.fv 26 sG Ri)] RU)
def aav:aq:=(sR [oP Nj (.jP false 0 [] []),oM Nk lI,oC Nl 16 [LU],oP Nn (.app false 2 LR LV),oM Ay LW] aaw)
def V2:aq:=(sR [oP Nh (.build [(.int 7 0),(.int 3 0),(.bool false),.aw] [⟨0,⟨1,(kI 7 9)⟩⟩]),oP Ni (.build [(.int 7 0),(.int 3 0),(.bool false),.aw] [⟨0,⟨1,(kI 7 9)⟩⟩]),oP xX (.lD [(.int 7 0),(.int 3 0),(.bool false),.aw]),oP Ax (.lD [(.int 7 0),(.int 3 0),(.bool false),.aw]),oP none (.fv 4 qp LP),oP none (.fv 4 qt LQ)] aav)
def RT:aq:=(.seq (sR [oM M9 lI,oP Na (.eqv 1 false LJ (.c .iS)),oM Nb LK,⟨0,Nc,(gF .i0 .i5 .i1),0,(.kU qo)⟩,⟨0,Nd,(gF .i0 .i5 .i1),0,(.eqv 1 false LL (.c .iS))⟩,oP Nf (.pick Jx (.c (.bool true)) LM)] (.cond LN (sR [oC Ng 14 [],oM sX LO] .ret) .skip)) V2)
def My:aq:=(sR [oM JK nJ,oC MZ 12 [Fl],oM M1 qX,oC M8 12 [LH],oM wk LG,oM xW LI] RT)
def V1:aq:=(.seq (sR [oP CP (.Xx 2 1 gu (kI 3 0)),oL CR Ac,oP FG (.eR B4),oP FH (gt3 Fh (kI 3 0))] (.cond Fi (.ux [oP FJ (.Xx 2 1 gu (kI 3 0)),oL FK Fj,oP MX (.A0 1 Fk (kI 3 0)),oL MY Jw,oM sY LF]) .skip)) My)
def V0:aq:=(.seq (.rD [oP AH (.Xx 2 1 gu (kI 3 1)),oL CO Ab,oM sY (kI 4 0),oM rB xR]) V1)
def c4:aq:=(sR [oP nC (.box Rg),oP sX (.kU (.c (.bool false)))] V0)
def C18:=oo (cd 18) (by conv=>lhs;reduce)
def Up:aq:=.ret
def Uo:=oA (sp 7 C18) (by conv=>lhs;reduce) Up
def Un:=oA (sp 6 C18) (by conv=>lhs;reduce) Uo
def Um:=oA (sp 5 C18) (by conv=>lhs;reduce) Un
def Ul:=oA (sp 4 C18) (by conv=>lhs;reduce) Um
def Uk:=oA (sp 3 C18) (by conv=>lhs;reduce) Ul
def Uj:=oA (sp 2 C18) (by conv=>lhs;reduce) Uk
def Ui:=oA (sp 1 C18) (by conv=>lhs;reduce) Uj
def c18:=oA (sp 0 C18) (by conv=>lhs;reduce) Ui
def C8:=oo (cd 8) (by conv=>lhs;reduce)
def MS:=oo (lb 0 C8) (by conv=>lhs;reduce)
def c8:=oA (λa=>lm [a] C8) (by conv=>lhs;reduce) MS
def c12:=oo (cd 12) (by conv=>lhs;reduce)
def c36:=oo (cd 36) (by conv=>lhs;reduce)
def C37:=oo (cd 37) (by conv=>lhs;reduce)
def Ch:=oo (lb 0 C37) (by conv=>lhs;reduce)
def UB:aq:=.ret
def UA:=oA (sp 7 C37) (by conv=>lhs;reduce) UB
def Uz:=oB (λa x=>rp 6 [a] C37 x) (by conv=>lhs;reduce) Ch UA
def Uy:=oA (sp 5 C37) (by conv=>lhs;reduce) Uz
def Ux:=oA (sp 4 C37) (by conv=>lhs;reduce) Uy
def Uw:=oA (sp 3 C37) (by conv=>lhs;reduce) Ux
def Uv:=oA (sp 2 C37) (by conv=>lhs;reduce) Uw
def Uu:=oA (sp 1 C37) (by conv=>lhs;reduce) Uv
def c37:=oA (sp 0 C37) (by conv=>lhs;reduce) Uu
def c20:=oo (cd 20) (by conv=>lhs;reduce)
def c16:=oo (cd 16) (by conv=>lhs;reduce)
def Cq:aq:=(.seq (sR [oM AH nx,oM CO nJ,oM CP gu,oP CR (.A0 1 xR Ac),oL FG B4,oP FH (.eR Fh),oP FJ (lt3 Ab Fi),oM FK Fj,⟨0,MX,(gT .i0 .i4 .i0),0,(.kU nx)⟩,⟨0,MY,(gT .i0 .i4 .i0),0,(lt3 Jw (kI 3 4))⟩,oP JK (.pick Fk LF (.c (.bool false)))] (.cond Fl .skip (.exit 2))) (.seq (.block 3 (.seq (.rD [oM M8 jJ,oM M9 nJ,oM Na gu,oP Nb (.A0 1 LJ LK),⟨0,Nc,none,1,(.dm Jx)⟩,oM Nd nx,oP Nf (.A0 1 LL LM),⟨0,Ng,none,1,(.dm LN)⟩,oP Nh (.qb 4 3 0 18446744073709551616 LO),oP Ni (.bin 3 3 (.rem 9223372036854775808) LP (kI 3 3)),oM Nj nJ,oM Nk gu,oP Nl (.A0 1 LR LU),⟨0,Nn,none,1,(.dm LV)⟩,oM Np nx,oP RX (.A0 1 LW LX),⟨0,RY,none,1,(.dm Rh)⟩,oP RZ (.bin 4 4 (.quo 256) Ri (kI 4 3)),⟨0,Se,none,1,(.call 42 [Rj])⟩,oC Sf 40 [LI,LQ,Rk],oP Sg (ne3 Rl (kI 3 0))]) (.cond Rm (sR [oP sW (.kU (.c .iS))] .ret) .skip))) (.ux [oM MZ nx,oP M1 (ad3 LG (kI 3 1)),oM sX LH])))
def Ao:aq:=(.seq (sR [oM xX gu,oM Ax nJ,oP Ay (.eR qt),oP Az (lt3 qp uH),oM xY sG,⟨0,CM,(gT .i0 .i1 .i7),0,(.kU gu)⟩,⟨0,xZ,(gT .i0 .i1 .i7),0,(lt3 zZ (kI 3 10))⟩,oP CN (.pick pQ uI (.c (.bool false))),oM AA uJ,⟨0,AB,(gT .i0 .i2 .i3),0,(.kU jJ)⟩,⟨0,AE,(gT .i0 .i2 .i3),0,(.eqv 1 true Aa (.c .iS))⟩,oP AF (.pick sH vN (.c (.bool false)))] (.cond xQ .skip (.exit 0))) (.seq (.block 1 (.seq (sR [oM sX (kI 3 0)] (.block 2 (.loop Cq))) (sR [oM Sh jJ,oM Si gu,oP Sj (.qb 3 7 0 18446744073709551616 Ro),oP Sk (.bin 7 7 (.quo 18446744073709551616) Rp (kI 7 3)),oP Sl (.bin 7 7 (.add 18446744073709551616) (kI 7 1) LY),oM d100 gu,oP d101 (.qb 3 7 0 18446744073709551616 Rr),oP d102 (.bin 7 7 (.rem 18446744073709551616) Rs (kI 7 3)),oP d103 (.bin 7 7 (.add 18446744073709551616) (kI 7 1) Rt),oC d104 26 [Rq,Ru],oC d105 44 [Rn,Vs],oP d106 (ne3 a105 (kI 3 0))] (.cond Vt (sR [oP sW (.kU (.c .iS))] .ret) .skip)))) (.ux [oM x9 gu,oP AG (ad3 uK (kI 3 1)),oM nC uL])))
def aaB:aq:=.ret
def aaA:aq:=(sR [oM d107 jJ,oM sW a107] aaB)
def aaz:aq:=(.seq (sR [oM nC (kI 3 0)] (.block 0 (.loop Ao))) aaA)
def aay:aq:=(sR [oC rB 28 [],oM sY pP,oX wk nK 0,oX xW nK 1,oM xV lI,oM qy qo] aaz)
def c6:aq:=(sR [oP sW (.kU (.c .iS))] aay)
def c10:=oo (cd 10) (by conv=>lhs;reduce)
def C11:=oo (cd 11) (by conv=>lhs;reduce)
def T9:aq:=.ret
def Me:=oA (sp 6 C11) (by conv=>lhs;reduce) T9
def Is:=oA (sp 5 C11) (by conv=>lhs;reduce) Me
def Ce:=oA (sp 4 C11) (by conv=>lhs;reduce) Is
def Cd:=oA (sp 3 C11) (by conv=>lhs;reduce) Ce
def Cc:=oA (sp 2 C11) (by conv=>lhs;reduce) Cd
def Cb:=oA (sp 1 C11) (by conv=>lhs;reduce) Cc
def Z6:=oA (sp 0 C11) (by conv=>lhs;reduce) Cb
def c13:=oo (cd 13) (by conv=>lhs;reduce)
def C14:=oo (cd 14) (by conv=>lhs;reduce)
def Uh:aq:=.ret
def Ug:=oA (sp 5 C14) (by conv=>lhs;reduce) Uh
def Uf:=oA (sp 4 C14) (by conv=>lhs;reduce) Ug
def Ue:=oA (sp 3 C14) (by conv=>lhs;reduce) Uf
def Ud:=oA (sp 2 C14) (by conv=>lhs;reduce) Ue
def Uc:=oA (sp 1 C14) (by conv=>lhs;reduce) Ud
def c14:=oA (sp 0 C14) (by conv=>lhs;reduce) Uc
def c22:=oo (cd 22) (by conv=>lhs;reduce)
def C42:=oo (cd 42) (by conv=>lhs;reduce)
def Ci:=oo (lb 0 C42) (by conv=>lhs;reduce)
def c42:=oA (λa=>lm [a] C42) (by conv=>lhs;reduce) Ci
def C43:=oo (cd 43) (by conv=>lhs;reduce)
def Iv:=oo (lb 0 C43) (by conv=>lhs;reduce)
def aat:aq:=.ret
def aas:=oA (sp 3 C43) (by conv=>lhs;reduce) aat
def UD:aq:=(.seq (.block 0 (.loop Iv)) aas)
def UC:=oA (sp 1 C43) (by conv=>lhs;reduce) UD
def c43:=oA (sp 0 C43) (by conv=>lhs;reduce) UC
def C44:=oo (cd 44) (by conv=>lhs;reduce)
def Fz:aq:=.ret
def Fy:=oA (sp 11 C44) (by conv=>lhs;reduce) Fz
def Fx:=oA (sp 10 C44) (by conv=>lhs;reduce) Fy
def Mu:=oA (sp 9 C44) (by conv=>lhs;reduce) Fx
def Mt:=oA (sp 8 C44) (by conv=>lhs;reduce) Mu
def Mr:=oA (sp 7 C44) (by conv=>lhs;reduce) Mt
def Mq:=oA (sp 6 C44) (by conv=>lhs;reduce) Mr
def Mp:=oA (sp 5 C44) (by conv=>lhs;reduce) Mq
def Mo:=oA (sp 4 C44) (by conv=>lhs;reduce) Mp
def Mn:=oA (sp 3 C44) (by conv=>lhs;reduce) Mo
def Mm:=oA (sp 2 C44) (by conv=>lhs;reduce) Mn
def Mk:=oA (sp 1 C44) (by conv=>lhs;reduce) Mm
def c44:=oA (sp 0 C44) (by conv=>lhs;reduce) Mk
def C45:=oo (cd 45) (by conv=>lhs;reduce)
def tS:=oo (lb 0 C45) (by conv=>lhs;reduce)
def c45:=oA (λa=>lm [a] C45) (by conv=>lhs;reduce) tS
def c46:=oo (cd 46) (by conv=>lhs;reduce)
def C79:=oo (cd 79) (by conv=>lhs;reduce)
def yu:=oo (lb 0 C79) (by conv=>lhs;reduce)
def MP:aq:=.ret
def MN:=oA (sp 11 C79) (by conv=>lhs;reduce) MP
def MM:=oB (λa x=>rp 10 [a] C79 x) (by conv=>lhs;reduce) yu MN
def UO:=oA (sp 9 C79) (by conv=>lhs;reduce) MM
def UN:=oA (sp 8 C79) (by conv=>lhs;reduce) UO
def UM:=oA (sp 7 C79) (by conv=>lhs;reduce) UN
def UL:=oA (sp 6 C79) (by conv=>lhs;reduce) UM
def MR:=oA (sp 5 C79) (by conv=>lhs;reduce) UL
def IC:=oA (sp 4 C79) (by conv=>lhs;reduce) MR
def UK:=oA (sp 3 C79) (by conv=>lhs;reduce) IC
def MQ:=oA (sp 2 C79) (by conv=>lhs;reduce) UK
def ML:=oA (sp 1 C79) (by conv=>lhs;reduce) MQ
def c79:=oA (sp 0 C79) (by conv=>lhs;reduce) ML
def RR:=oo (cd 48) (by conv=>lhs;reduce)
def C50:=oo (cd 50) (by conv=>lhs;reduce)
def Cj:=oo (lb 0 C50) (by conv=>lhs;reduce)
def yq:=oo (lb 1 C50) (by conv=>lhs;reduce)
def yr:=oo (lb 2 C50) (by conv=>lhs;reduce)
def MC:aq:=.ret
def MB:=oA (sp 11 C50) (by conv=>lhs;reduce) MC
def MA:=oB (λa x=>rp 10 [a] C50 x) (by conv=>lhs;reduce) yr MB
def MK:=oA (sp 9 C50) (by conv=>lhs;reduce) MA
def MJ:=oA (sp 8 C50) (by conv=>lhs;reduce) MK
def MI:=oB (λa x=>rp 7 [a] C50 x) (by conv=>lhs;reduce) yq MJ
def MH:=oA (sp 6 C50) (by conv=>lhs;reduce) MI
def MG:=oA (sp 5 C50) (by conv=>lhs;reduce) MH
def MF:=oA (sp 4 C50) (by conv=>lhs;reduce) MG
def ME:=oA (sp 3 C50) (by conv=>lhs;reduce) MF
def MD:=oB (λa x=>rp 2 [a] C50 x) (by conv=>lhs;reduce) Cj ME
def Mz:=oA (sp 1 C50) (by conv=>lhs;reduce) MD
def c50:=oA (sp 0 C50) (by conv=>lhs;reduce) Mz
def c55:=oo (cd 55) (by conv=>lhs;reduce)
def c35:=oo (cd 35) (by conv=>lhs;reduce)
def C51:=oo (cd 51) (by conv=>lhs;reduce)
def Iw:=oo (lb 0 C51) (by conv=>lhs;reduce)
def Ck:=oo (lb 1 C51) (by conv=>lhs;reduce)
def An:aq:=.ret
def IB:=oA (sp 9 C51) (by conv=>lhs;reduce) An
def IA:=oA (sp 8 C51) (by conv=>lhs;reduce) IB
def Iz:=oA (sp 7 C51) (by conv=>lhs;reduce) IA
def Iy:=oB (λa x=>rp 6 [a] C51 x) (by conv=>lhs;reduce) Ck Iz
def Ix:=oA (sp 5 C51) (by conv=>lhs;reduce) Iy
def Cp:=oA (sp 4 C51) (by conv=>lhs;reduce) Ix
def Co:=oA (sp 3 C51) (by conv=>lhs;reduce) Cp
def Cm:=oB (λa x=>rp 2 [a] C51 x) (by conv=>lhs;reduce) Iw Co
def Cl:=oA (sp 1 C51) (by conv=>lhs;reduce) Cm
def c51:=oA (sp 0 C51) (by conv=>lhs;reduce) Cl
def c56:=oo (cd 56) (by conv=>lhs;reduce)
def VX:=oo (cd 117) (by conv=>lhs;reduce)
def c81:=oo (cd 81) (by conv=>lhs;reduce)
def c82:=oo (cd 82) (by conv=>lhs;reduce)
def C83:=oo (cd 83) (by conv=>lhs;reduce)
def Cv:=oo (lb 0 C83) (by conv=>lhs;reduce)
def UP:=oA (λa=>lm [a] C83) (by conv=>lhs;reduce) Cv
def C107:=oo (cd 107) (by conv=>lhs;reduce)
def sM:=oo (lb 0 C107) (by conv=>lhs;reduce)
def Z4:=oA (λa=>lm [a] C107) (by conv=>lhs;reduce) sM
def c49:=oo (cd 49) (by conv=>lhs;reduce)
def c52:=oo (cd 52) (by conv=>lhs;reduce)
def c53:=oo (cd 53) (by conv=>lhs;reduce)
def c38:=oo (cd 38) (by conv=>lhs;reduce)
def C80:=oo (cd 80) (by conv=>lhs;reduce)
def Cu:aq:=.ret
def Ct:=oA (sp 5 C80) (by conv=>lhs;reduce) Cu
def Cs:=oA (sp 4 C80) (by conv=>lhs;reduce) Ct
def Cr:=oA (sp 3 C80) (by conv=>lhs;reduce) Cs
def vY:=oA (sp 2 C80) (by conv=>lhs;reduce) Cr
def vX:=oA (sp 1 C80) (by conv=>lhs;reduce) vY
def V4:=oA (sp 0 C80) (by conv=>lhs;reduce) vX
def c32:=oo (cd 32) (by conv=>lhs;reduce)
def C21:=oo (cd 21) (by conv=>lhs;reduce)
def It:=oo (lb 0 C21) (by conv=>lhs;reduce)
def c21:=oA (λa=>lm [a] C21) (by conv=>lhs;reduce) It
def c23:=oo (cd 23) (by conv=>lhs;reduce)
def c33:aq:=(sR [oP xV (.box qX),oP qy (.kU (.c (.bool false)))] (.seq (sR [oF nC 13 jJ,oL sX gu,oP sY (lt3 nx (kI 3 1)),oM rB nK,⟨0,wk,(gF .i0 .i1 .i0),0,(.fW 13 jJ)⟩,⟨0,xW,(gF .i0 .i1 .i0),0,(.dm lI)⟩,⟨0,xX,(gF .i0 .i1 .i0),0,(.kU nJ)⟩,⟨0,Ax,(gF .i0 .i1 .i0),0,(.eR qp)⟩,⟨0,Ay,(gF .i0 .i1 .i0),0,(gt3 qo qt)⟩,oP Az (.pick pP (.c (.bool true)) uH)] (.cond sG (sR [oF xY 13 jJ,oL CM pQ,oP xZ (eq3 zZ (kI 3 0)),oM CN uI,⟨0,AA,(gT .i0 .i2 .i2),0,(.fW 14 jJ)⟩,⟨0,AB,(gT .i0 .i2 .i2),0,(.cM 2 sH)⟩,⟨0,AE,(gT .i0 .i2 .i2),0,(.build [(.int 7 0),(.int 7 0)] [])⟩,⟨0,AF,(gT .i0 .i2 .i2),0,(.jM [1,1] false Aa vN)⟩,oP x9 (.pick uJ xQ (.c (.bool false))),oM qy uK] .ret) .skip)) (.seq (.rD [oM AG nJ,oF AH 13 jJ,⟨0,CO,none,1,(.dm Ab)⟩,oP CP (sb3 xR (kI 3 1)),oP CR (.A0 2 uL Ac),⟨0,FG,none,1,(.cM 2 B4)⟩,oF FH 14 jJ,⟨0,FJ,none,1,(.cM 2 Fi)⟩,oP FK (.jM [1,1] false Fh Fj),oM qy Fk]) .ret)))
def Mj:aq:=.ret
def Mh:aq:=(sR [oP Nl (.cM 7 qt),oM Nn qo,oP Np (eq3 LW (kI 3 0)),oP none (.fv 7 nx LV),oM sY LX] Mj)
def Iu:aq:=(sR [oF Nc 14 gu,oP Nd (.cM 2 LL),oP Nf (.cM 2 jK),oM Ng lI,oM Nh qp,oC Ni 160 [LM,LN,LO,LP],oM Nb LQ,oX Nj Jx 0,oX Nk Jx 1,oP Ax (.lD [(.int 7 0),(.int 7 0),(.int 7 0),(.int 7 0),(.int 3 0),(.int 3 0),.aw]),oP none (.fv 7 qt LR),oM xW LU] Mh)
def Cg:aq:=(.seq (sR [oF CP 16 gu,oP CR (.cM 2 Ac),oP FG (.cM 2 jK),oP FH (.jM [1,1] true B4 Fh),oM FJ Fi,⟨0,FK,(gF .i0 .i3 .i7),0,(.kU qp)⟩,⟨0,MX,(gF .i0 .i3 .i7),0,(lt3 Fk (kI 3 1))⟩,oP MY (.pick Fj (.c (.bool true)) Jw),oM JK LF,⟨0,MZ,(gF .i0 .i4 .i3),0,(.kU qp)⟩,⟨0,M1,(gF .i0 .i4 .i3),0,(.kU lI)⟩,⟨0,M8,(gF .i0 .i4 .i3),0,(.eR LH)⟩,⟨0,M9,(gF .i0 .i4 .i3),0,(.cmp 3 (.ge 9223372036854775808 18446744073709551616) LG LI)⟩,oP Na (.pick Fl (.c (.bool true)) LJ)] (.cond LK (.ux [oM xX (kI 3 0)]) .skip)) Iu)
def Ut:aq:=(sR [oF AH 18 gu,oL CO Ab,oM xX xR] Cg)
def Us:aq:=(.seq (sR [oM AF qo,oP x9 (ne3 xQ (kI 3 0))] (.cond uK (sR [oP AG (.build [(.int 7 0),(.int 7 0),(.int 7 0),(.int 7 0),(.int 3 0),(.int 3 0),.aw] []),oP none (.fv 7 nx uL),oP sY (.kU (.c (.bool false)))] .ret) .skip)) Ut)
def Ur:aq:=(sR [oM CM pP,oF xZ 13 gu,oL CN uI,oP AA (.IF zZ [uJ]),oM xY sH,oX AB pQ 0,oX AE pQ 1,oM wk Aa,oM xW vN] Us)
def Uq:aq:=(sR [oM Ay nJ,oP Az (.Zu 159 [uH]),oM rB sG] Ur)
def c34:aq:=(sR [oP qy (.box qX),oP nC (.box Rg),oP sX (.lD [(.int 7 0),(.int 7 0),(.int 7 0),(.int 7 0),(.int 3 0),(.int 3 0),.aw]),oP sY (.kU (.c (.bool false)))] Uq)
def c54:=oo (cd 54) (by conv=>lhs;reduce)
def c57:=oo (cd 57) (by conv=>lhs;reduce)
def c85:=oo (cd 85) (by conv=>lhs;reduce)
def c86:=oo (cd 86) (by conv=>lhs;reduce)
def c87:=oo (cd 87) (by conv=>lhs;reduce)
def c88:=oo (cd 88) (by conv=>lhs;reduce)
def C90:=oo (cd 90) (by conv=>lhs;reduce)
def Cw:=oo (lb 0 C90) (by conv=>lhs;reduce)
def c90:=oA (λa=>lm [a] C90) (by conv=>lhs;reduce) Cw
def C91:=oo (cd 91) (by conv=>lhs;reduce)
def pY:=oo (lb 0 C91) (by conv=>lhs;reduce)
def c91:=oA (λa=>lm [a] C91) (by conv=>lhs;reduce) pY
def C92:=oo (cd 92) (by conv=>lhs;reduce)
def Cx:=oo (lb 0 C92) (by conv=>lhs;reduce)
def c92:=oA (λa=>lm [a] C92) (by conv=>lhs;reduce) Cx
def c93:=oo (cd 93) (by conv=>lhs;reduce)
def c94:=oo (cd 94) (by conv=>lhs;reduce)
def c95:=oo (cd 95) (by conv=>lhs;reduce)
def C96:=oo (cd 96) (by conv=>lhs;reduce)
def ID:=oo (lb 0 C96) (by conv=>lhs;reduce)
def c96:=oA (λa=>lm [a] C96) (by conv=>lhs;reduce) ID
def c97:=oo (cd 97) (by conv=>lhs;reduce)
def c98:=oo (cd 98) (by conv=>lhs;reduce)
def C99:=oo (cd 99) (by conv=>lhs;reduce)
def IE:=oo (lb 0 C99) (by conv=>lhs;reduce)
def c99:=oA (λa=>lm [a] C99) (by conv=>lhs;reduce) IE
def C100:=oo (cd 100) (by conv=>lhs;reduce)
def Ah:=oo (lb 0 C100) (by conv=>lhs;reduce)
def Z2:=oA (λa=>lm [a] C100) (by conv=>lhs;reduce) Ah
def VU:=oo (cd 101) (by conv=>lhs;reduce)
def vT:aq:=(sR [oP MZ (lt3 Fl LF)] (.seq (.cond LG .skip (.exit 0)) (.seq (.block 1 (sR [oP M1 (.A0 4 Jw Fl),oP M8 (.cM 4 LH),oP sY (.lD [(.int 7 0),(.int 7 0),.aw,(.bool false)]),oP none (.fv 4 nK LI)] (.rD [oM M9 gu,oF Na 0 nK,⟨0,Nb,none,1,(.cM 2 LK)⟩,⟨0,Nc,none,1,(.call 278 [LJ,Jx])⟩,oF Nd 3 nK,⟨0,Nf,none,1,(.dm LM)⟩,⟨0,Ng,none,1,(.call 280 [LN])⟩,⟨0,Nh,none,1,(.jP false 1 [(.int 3 0)] [⟨0,⟨1,LO⟩⟩])⟩,⟨0,Ni,none,1,(.call 276 [LL,LP])⟩,oF Nj 2 nK,⟨0,Nk,none,1,(.dm LR)⟩,oC Nl 276 [LQ,LU],oM nC LV]))) (.ux [oP Nn (ad3 Fl (kI 3 1)),oM JK LW]))))
def RJ:aq:=(sR [oP aej (.box nJ),oP sW (.kU (.c (.str 0 0))),oM xV (kI 3 0)] (.seq (sR [oP xW (.cM 9 qX),oF xX 0 qX,oL Ax qp,oP Ay (.eR qt),oC Az 90 [qo,uH,(kI 3 1024)],oM qy sG] (sR [oM xY jK,oP CM (ne3 pQ (kI 3 0))] (.cond zZ (sR [oM xZ jK,oP sW (.kU (.c (.str 0 0))),oM xV uI] .ret) .skip))) (.seq (.rD [oF CN 0 qX,⟨0,AA,none,1,(.dm uJ)⟩,⟨0,AB,none,1,(.eR sH)⟩,⟨0,AE,none,1,(.jP false 1 [(.int 3 0)] [⟨0,⟨1,Aa⟩⟩])⟩,⟨0,AF,none,1,(.call 276 [(.c (.str 0 0)),vN])⟩,oF x9 0 qX,⟨0,AG,none,1,(.dm uK)⟩,oC AH 276 [xQ,uL],oM nC Ab]) (sR [oM CO gu,oF CP 1 qX,oL CR Ac,oP FG (.eR B4),oP FH (.jP false 1 [(.int 3 0)] [⟨0,⟨1,Fh⟩⟩]),oC FJ 276 [xR,Fi],oM nC Fj] (.seq (sR [oF FK 1 qX,oL MX Fk,oP MY (.eR Jw),oM JK (kI 3 0)] (.block 0 (.loop vT))) (sR [oF Np 2 qX,oP RX (.cM 7 LX),oP rB (.lD [(.int 7 0),(.int 7 0),(.int 7 0),(.int 7 0),(.int 3 0),(.int 3 0),.aw]),oP none (.fv 7 pP Rh)] (sR [oF RY 2 pP,oP RZ (.cM 2 Ri),oP Se (.build [(.int 7 0),(.int 7 0)] []),oP Sf (.jM [1,1] true Rj Rk),oM wk Rl] (sR [oM Sg gu,oM Sh lI,oC Si 280 [Rn],oP Sj (.jP false 1 [(.int 3 0)] [⟨0,⟨1,Ro⟩⟩]),oC Sk 276 [Rm,Rp],oM nC LY] (.seq (sR [oM Sl lI] (.cond Rq (.rD [oM d100 gu,oF d101 0 pP,⟨0,d102,none,1,(.cM 2 Rs)⟩,⟨0,d103,none,1,(.call 278 [Rr,Rt])⟩,oF d104 2 pP,⟨0,d105,none,1,(.cM 2 Vs)⟩,⟨0,d106,none,1,(.call 278 [Ru,a105])⟩,oF d107 4 pP,⟨0,d110,none,1,(.dm a107)⟩,oF d111 5 pP,⟨0,d112,none,1,(.dm ZO)⟩,⟨0,d113,none,1,(.jP false 2 [(.int 3 0),(.int 3 0)] [⟨0,⟨1,ZN⟩⟩,⟨1,⟨1,ZP⟩⟩])⟩,⟨0,d114,none,1,(.call 276 [Vt,ZQ])⟩,oF d115 6 pP,⟨0,d116,none,1,(.dm ZS)⟩,oC d117 276 [ZR,a116],oM nC a117]) .skip)) (.seq (sR [oM d120 gu,oC d121 258 [ZT],oP d122 (gt3 ZU (kI 3 48))] (.cond ZV (sR [oP sW (.kU (.c (.str 0 0))),oM xV (kI 3 3)] .ret) .skip)) (sR [oM d123 gu,oM sW ZW,oM xV (kI 3 0)] .ret)))))))))))
def C103:=oo (cd 103) (by conv=>lhs;reduce)
def mq:=oo (lb 0 C103) (by conv=>lhs;reduce)
def JF:=oA (λa=>lm [a] C103) (by conv=>lhs;reduce) mq
def Z3:=oo (cd 104) (by conv=>lhs;reduce)
def ru:aq:=(sR [oP qy (.box nJ),oP nC (.box qX),oM rB (kI 3 0)] (.seq (sR [oF wk 2 jK,oP xW (.cM 2 lI),oP xX (.build [(.int 7 0),(.int 7 0)] []),oP Ax (.jM [1,1] false qo qp)] (.cond qt (.seq (sR [oF Ay 0 jK,oP Az (.cM 2 uH),oF xY 2 jK,oP CM (.cM 2 pQ),oP xZ (.jM [1,1] true sG zZ),oM CN uI,⟨0,AA,(gF .i0 .i2 .i2),0,(.fW 4 jK)⟩,⟨0,AB,(gF .i0 .i2 .i2),0,(.dm sH)⟩,⟨0,AE,(gF .i0 .i2 .i2),0,(ne3 Aa (kI 3 0))⟩,oP AF (.pick uJ (.c (.bool true)) vN),oM x9 xQ,⟨0,AG,(gF .i0 .i2 .i7),0,(.fW 5 jK)⟩,⟨0,AH,(gF .i0 .i2 .i7),0,(.dm uL)⟩,⟨0,CO,(gF .i0 .i2 .i7),0,(ne3 Ab (kI 3 0))⟩,oP CP (.pick uK (.c (.bool true)) xR),oM CR Ac,⟨0,FG,(gF .i0 .i3 .i4),0,(.fW 6 jK)⟩,⟨0,FH,(gF .i0 .i3 .i4),0,(.dm Fh)⟩,⟨0,FJ,(gF .i0 .i3 .i4),0,(.eR Fi)⟩,⟨0,FK,(gF .i0 .i3 .i4),0,(ne3 Fj (kI 3 0))⟩,oP MX (.pick B4 (.c (.bool true)) Fk)] (.cond Jw (sR [oM rB (kI 3 2)] .ret) .skip)) (sR [oM rB (kI 3 0)] .ret)) .skip)) (.seq (sR [oF MY 0 jK,oP JK (.cM 2 LF),oP MZ (.cM 2 gu),oP M1 (.jM [1,1] true Fl LG),oM M8 LH,⟨0,M9,(gF .i0 .i4 .i6),0,(.fW 2 jK)⟩,⟨0,Na,(gF .i0 .i4 .i6),0,(.cM 2 LJ)⟩,⟨0,Nb,(gF .i0 .i4 .i6),0,(.cM 2 gu)⟩,⟨0,Nc,(gF .i0 .i4 .i6),0,(.call 208 [LK,Jx])⟩,⟨0,Nd,(gF .i0 .i4 .i6),0,(.cmp 3 (.le 9223372036854775808 18446744073709551616) LL (kI 3 0))⟩,oP Nf (.pick LI (.c (.bool true)) LM),oM Ng LN,⟨0,Nh,(gF .i0 .i5 .i5),0,(.fW 4 jK)⟩,⟨0,Ni,(gF .i0 .i5 .i5),0,(.dm LP)⟩,⟨0,Nj,(gF .i0 .i5 .i5),0,(lt3 LQ (kI 3 1))⟩,oP Nk (.pick LO (.c (.bool true)) LR),oM Nl LU,⟨0,Nn,(gF .i0 .i6 .i2),0,(.fW 5 jK)⟩,⟨0,Np,(gF .i0 .i6 .i2),0,(.dm LW)⟩,⟨0,RX,(gF .i0 .i6 .i2),0,(.fW 4 jK)⟩,⟨0,RY,(gF .i0 .i6 .i2),0,(.dm Rh)⟩,⟨0,RZ,(gF .i0 .i6 .i2),0,(.cmp 3 (.le 9223372036854775808 18446744073709551616) LX Ri)⟩,oP Se (.pick LV (.c (.bool true)) Rj),oM Sf Rk,⟨0,Sg,(gF .i0 .i7 .i1),0,(.fW 5 jK)⟩,⟨0,Sh,(gF .i0 .i7 .i1),0,(.dm Rm)⟩,⟨0,Si,(gF .i0 .i7 .i1),0,(.kU Rg)⟩,⟨0,Sj,(gF .i0 .i7 .i1),0,(gt3 Rn Ro)⟩,oP Sk (.pick Rl (.c (.bool true)) Rp)] (.cond LY (sR [oM rB (kI 3 2)] .ret) .skip)) (sR [oF Sl 6 jK,oL d100 Rq,oM d101 Rg,oM d102 jJ,oC d103 206 [Rr,Rs,Rt],oM rB Ru] .ret))))
def VV:=oo (cd 108) (by conv=>lhs;reduce)
noncomputable def kL:RC × RC:=XV ((Tryz.prog.funcs[109]?).bind (je Tryz.prog 109))
noncomputable def Z5:aq:=(sR [oP xV (.box qX),oP qy (.lD [.aw]),oP nC (.lD [(.int 3 0)])] (.seq (sR [oL rB jJ,oP wk (lt3 pP (kI 3 0)),oM xW lI,⟨0,xX,(gF .i0 .i1 .i2),0,(.dm jJ)⟩,⟨0,Ax,(gF .i0 .i1 .i2),0,(gt3 qp (kI 3 1024))⟩,oP Ay (.pick qo (.c (.bool true)) qt)] (.cond uH (sR [oP none (.fu jK (.c .aw)),oP none (.fu gu (kI 3 2))] .ret) .skip)) (sR [oL Az jJ,oP xY (.mkSlice false [(.int 3 0)] sG sG),oP sX (.lD [.aw]),oP none (.fu nx pQ)] (.seq (sR [oM CM nJ,oC xZ 288 [zZ]] (.block 0 (.ko uI [s022] kL.1 kL.2))) (sR [oL FK nx,oP none (.fu jK Fk),oP none (.fu gu (kI 3 0))] .ret)))))
def T7:aq:=(.ux [oM sY uJ])
def T8:aq:=(.block 1 (.seq (sR [oM AA nK,oP AB (lt3 sH (kI 3 193)),oM AE Aa,⟨0,AF,(gF .i0 .i2 .i5),0,(.kU nK)⟩,⟨0,x9,(gF .i0 .i2 .i5),0,(.dm jJ)⟩,⟨0,AG,(gF .i0 .i2 .i5),0,(.cmp 3 (.ge 9223372036854775808 18446744073709551616) xQ uK)⟩,oP AH (.pick vN (.c (.bool true)) uL)] (.cond Ab (sR [oP none (.fu jK (.c .aw)),oP none (.fu gu (kI 3 2))] .ret) .skip)) (.ux [oL CO nx,oM CP nK,oP CR (.A0 1 xR Ac),oL FG B4,oP FH (ad3 Fh (kI 3 1)),oP FJ (.A0 1 xR Ac),oP none (.fu Fj Fi)])))
theorem Vc:aZ Tryz.prog kL.1=T7/\aZ Tryz.prog kL.2=T8:=by constructor<;>kernel_rfl
noncomputable def ej:RC × RC:=XV ((Tryz.prog.funcs[110]?).bind (je Tryz.prog 110))
noncomputable def RK:aq:=(sR [oP xV (.box qX),oP qy (.kU (.c .aw)),oM nC (kI 3 0)] (.seq (sR [oL rB jJ,oP wk (lt3 pP (kI 3 0))] (.cond lI (sR [oP qy (.kU (.c .aw)),oM nC (kI 3 2)] .ret) .skip)) (.seq (.seq (.rD [⟨0,xW,none,1,(.dm jJ)⟩,oM xX nJ,⟨0,Ax,none,1,(.call 290 [qp])⟩,oP Ay (gt3 qo qt)]) (.cond uH (sR [oP qy (.kU (.c .aw)),oM nC (kI 3 7)] .ret) .skip)) (sR [oP sX (.lD [.aw])] (.seq (sR [oM Az nJ,oC xY 292 [sG]] (.block 0 (.ko pQ [s020] ej.1 ej.2))) (sR [oL AH nx,oM qy Ab,oM nC (kI 3 0)] .ret))))))
def Mc:aq:=(.ux [oM sY zZ])
def Md:aq:=(.block 1 (.seq (sR [oL xZ nx,oP CN (.eR uI),oL AA jJ,oP AB (eq3 uJ sH)] (.cond Aa (.exit 0) .skip)) (.ux [oL AE nx,oM AF nK,oP x9 (.jP false 1 [(.int 3 0)] [⟨0,⟨1,xQ⟩⟩]),oP AG (.app false 1 vN uK),oP none (.fu nx uL)])))
theorem Jj:aZ Tryz.prog ej.1=Mc/\aZ Tryz.prog ej.2=Md:=by constructor<;>kernel_rfl
def C111:=oo (cd 111) (by conv=>lhs;reduce)
def vU:=oo (lb 0 C111) (by conv=>lhs;reduce)
def Z7:=oA (λa=>lm [a] C111) (by conv=>lhs;reduce) vU
def C141:=oo (cd 141) (by conv=>lhs;reduce)
def Fw:=oo (lb 0 C141) (by conv=>lhs;reduce)
def aai:=oA (λa=>lm [a] C141) (by conv=>lhs;reduce) Fw
def RL:=oo (cd 121) (by conv=>lhs;reduce)
def Z9:=oo (cd 122) (by conv=>lhs;reduce)
def C124:=oo (cd 124) (by conv=>lhs;reduce)
def Aj:=oo (lb 0 C124) (by conv=>lhs;reduce)
def vV:=oo (lb 1 C124) (by conv=>lhs;reduce)
def aaa:=oB (λa b=>lm [a,b] C124) (by conv=>lhs;reduce) Aj vV
def JG:=oo (cd 125) (by conv=>lhs;reduce)
def VW:=oo (cd 113) (by conv=>lhs;reduce)
def C114:=oo (cd 114) (by conv=>lhs;reduce)
def Ai:=oo (lb 0 C114) (by conv=>lhs;reduce)
def Z8:=oA (λa=>lm [a] C114) (by conv=>lhs;reduce) Ai
def c58:=oo (cd 58) (by conv=>lhs;reduce)
def aab:=oo (cd 126) (by conv=>lhs;reduce)
def RM:=oo (cd 127) (by conv=>lhs;reduce)
def aac:=oo (cd 129) (by conv=>lhs;reduce)
def aad:=oo (cd 132) (by conv=>lhs;reduce)
def aae:=oo (cd 133) (by conv=>lhs;reduce)
def Cf:=oo (cd 134) (by conv=>lhs;reduce)
def RN:=oo (cd 135) (by conv=>lhs;reduce)
def C136:=oo (cd 136) (by conv=>lhs;reduce)
def qw:=oo (lb 0 C136) (by conv=>lhs;reduce)
def RO:=oA (λa=>lm [a] C136) (by conv=>lhs;reduce) qw
def VY:=oo (cd 137) (by conv=>lhs;reduce)
def C138:=oo (cd 138) (by conv=>lhs;reduce)
def Ak:=oo (lb 0 C138) (by conv=>lhs;reduce)
def aaf:=oA (λa=>lm [a] C138) (by conv=>lhs;reduce) Ak
def aag:=oo (cd 139) (by conv=>lhs;reduce)
def aah:=oo (cd 140) (by conv=>lhs;reduce)
def aaj:=oo (cd 144) (by conv=>lhs;reduce)
noncomputable def nF:RC × RC:=XV ((Tryz.prog.funcs[145]?).bind (je Tryz.prog 145))
noncomputable def aak:aq:=(sR [oM sW (kI 3 0)] (sR [oP xV (.lD [(.int 3 0)]),oP none (.fu jJ (kI 3 0))] (.seq (sR [oM qy nJ,oC nC 292 [jK]] (.block 0 (.ko gu [s006] nF.1 nF.2))) (sR [oL wk jJ,oM sW lI] .ret))))
def Ua:aq:=.skip
def Ub:aq:=(.block 1 (.ux [oL sY jJ,oP rB (ad3 nK (kI 3 1)),oP none (.fu jJ pP)]))
theorem Vd:aZ Tryz.prog nF.1=Ua/\aZ Tryz.prog nF.2=Ub:=by constructor<;>kernel_rfl
def aal:=oo (cd 146) (by conv=>lhs;reduce)
def ad4:=oo (cd 147) (by conv=>lhs;reduce)
def aam:=oo (cd 149) (by conv=>lhs;reduce)
def C150:=oo (cd 150) (by conv=>lhs;reduce)
def vW:=oo (lb 0 C150) (by conv=>lhs;reduce)
def aan:=oA (λa=>lm [a] C150) (by conv=>lhs;reduce) vW
def aao:=oo (cd 151) (by conv=>lhs;reduce)
def Mf:=oo (cd 152) (by conv=>lhs;reduce)
def RP:=oo (cd 153) (by conv=>lhs;reduce)
def aap:=oo (cd 154) (by conv=>lhs;reduce)
def Mg:=oo (cd 164) (by conv=>lhs;reduce)
def sN:aq:=(sR [oP CM (lt3 pQ sG)] (.seq (.cond zZ .skip (.exit 2)) (.seq (.block 3 (sR [oP xZ (.A0 1 uH pQ),oL CN uI,oM sX uJ] (sR [oM AA nx,oP AB (ne3 sH (kI 3 0)),oM AE Aa,⟨0,AF,(gT .i0 .i2 .i5),0,(.kU nJ)⟩,⟨0,x9,(gT .i0 .i2 .i5),0,(.kU nx)⟩,⟨0,AG,(gT .i0 .i2 .i5),0,(.IF xQ [uK])⟩,⟨0,AH,(gT .i0 .i2 .i5),0,(.Oo uL)⟩,oP CO (.pick vN Ab (.c (.bool false)))] (.cond xR .ret .skip)))) (.ux [oP CP (ad3 pQ (kI 3 1)),oM xY Ac]))))
def Al:aq:=(sR [oP xW (lt3 lI pP)] (.seq (.cond qo .skip (.exit 0)) (.seq (.block 1 (sR [oP xX (.A0 1 nK lI),oL Ax qp,oM qy qt] (sR [oM Ay jK,oP Az (.eR uH),oM xY (kI 3 0)] (.block 2 (.loop sN))))) (.ux [oP CR (ad3 lI (kI 3 1)),oM wk B4]))))
def aaq:aq:=(sR [oL sY qX,oP rB (.eR nK),oM wk (kI 3 0)] (.block 0 (.loop Al)))
def C166:=oo (cd 166) (by conv=>lhs;reduce)
def sO:=oo (lb 0 C166) (by conv=>lhs;reduce)
def VZ:=oA (λa=>lm [a] C166) (by conv=>lhs;reduce) sO
def aar:=oo (cd 167) (by conv=>lhs;reduce)
def C168:=oo (cd 168) (by conv=>lhs;reduce)
def Am:=oo (lb 0 C168) (by conv=>lhs;reduce)
def RQ:=oA (λa=>lm [a] C168) (by conv=>lhs;reduce) Am
/-- The functions,as they stand in a table. -/
structure aJ (t:Nat->Option cW):Prop where
 k4:t 4=some (.code [s000,s001,s002] [(.tmp s006)] c4)
 k18:t 18=some (.code [s000] [(.tmp s002),(.tmp s003)] c18)
 k8:t 8=some (.code [s000] [(.tmp s002)] c8)
 k12:t 12=some (.code [s000] [(.eV s002 7)] c12)
 k36:t 36=some (.code [s000,s001] [(.tmp s004)] c36)
 k37:t 37=some (.code [s000,s001] [(.tmp s004)] c37)
 k20:t 20=some (.code [s000,s001,s002] [(.tmp s006)] c20)
 k16:t 16=some (.code [s000] [] c16)
 k6:t 6=some (.code [s000] [(.tmp s002)] c6)
 k10:t 10=some (.code [s000,s001] [(.eV s004 26)] c10)
 k11:t 11=some (.code [s000,s001,s002] [(.eV s006 26),(.tmp s007)] Z6)
 k13:t 13=some (.code [s000,s001] [(.eV s004 2)] c13)
 k14:t 14=some (.code [] [(.tmp s000),(.tmp s001)] c14)
 k22:t 22=some (.code [s000,s001] [(.tmp s004)] c22)
 k42:t 42=some (.code [s000] [(.tmp s002)] c42)
 k43:t 43=some (.code [s000] [(.tmp s002),(.tmp s003)] c43)
 k44:t 44=some (.code [s000] [(.eV s002 9),(.tmp s003)] c44)
 k45:t 45=some (.code [s000,s001,s002] [(.tmp s006)] c45)
 k46:t 46=some (.code [s000] [(.tmp s002)] c46)
 k79:t 79=some (.code [s000,s001] [(.tmp s004),(.tmp s005)] c79)
 k48:t 48=some (.code [s000] [(.tmp s002)] RR)
 k50:t 50=some (.code [s000,s001] [(.tmp s004),(.tmp s005),(.tmp s006)] c50)
 k55:t 55=some (.code [s000] [(.eV s002 4)] c55)
 k35:t 35=some (.code [s000] [(.tmp s002)] c35)
 k51:t 51=some (.code [s000,s001,s002] [(.tmp s006)] c51)
 k56:t 56=some (.code [s000] [] c56)
 Xz:t 117=some (.code [s000,s001,s002] [] VX)
 k81:t 81=some (.code [s000] [(.tmp s002)] c81)
 k82:t 82=some (.code [s000] [(.tmp s002),(.tmp s003)] c82)
 U3:t 83=some (.code [s000,s001] [(.tmp s004)] UP)
 aaX:t 107=some (.code [s000,s001] [(.tmp s004),(.tmp s005)] Z4)
 k49:t 49=some (.code [s000,s001,s002] [(.tmp s006)] c49)
 k52:t 52=some (.code [s000,s001,s002] [] c52)
 k53:t 53=some (.code [s000,s001,s002] [(.tmp s006),(.tmp s007)] c53)
 k38:t 38=some (.code [s000] [(.tmp s002)] c38)
 XC:t 80=some (.code [s000,s001,s002,s003] [(.eV s010 7),(.tmp s011)] V4)
 k32:t 32=some (.code [s000] [(.tmp s002),(.eV s003 2),(.eV s004 2),(.tmp s005)] c32)
 k21:t 21=some (.code [s000] [(.tmp s002)] c21)
 k23:t 23=some (.code [s000] [(.eV s002 4)] c23)
 k33:t 33=some (.code [s000,s001] [(.tmp s004)] c33)
 k34:t 34=some (.code [s000,s001,s002] [(.eV s006 7),(.tmp s007)] c34)
 k54:t 54=some (.code [s000,s001] [(.tmp s004)] c54)
 k57:t 57=some (.code [s000,s001] [] c57)
 k85:t 85=some (.code [s000] [(.tmp s002)] c85)
 k86:t 86=some (.code [s000] [(.tmp s002),(.tmp s003),(.tmp s004)] c86)
 k87:t 87=some (.code [s000,s001] [(.tmp s004),(.tmp s005)] c87)
 k88:t 88=some (.code [s000,s001] [(.tmp s004)] c88)
 k90:t 90=some (.code [s000] [(.tmp s002),(.tmp s003)] c90)
 k91:t 91=some (.code [s000,s001] [(.tmp s004)] c91)
 k92:t 92=some (.code [s000] [(.tmp s002)] c92)
 k93:t 93=some (.code [s000,s001] [(.tmp s004)] c93)
 k94:t 94=some (.code [s000] [(.tmp s002)] c94)
 k95:t 95=some (.code [s000] [(.tmp s001)] c95)
 k96:t 96=some (.code [s000] [(.tmp s002)] c96)
 k97:t 97=some (.code [s000] [(.eV s001 2)] c97)
 k98:t 98=some (.code [s000,s001] [(.tmp s002)] c98)
 k99:t 99=some (.code [s000,s001,s002] [(.tmp s006)] c99)
 aaU:t 100=some (.code [s000,s001,s002] [(.tmp s006)] Z2)
 aaV:t 101=some (.code [s000,s001,s002] [(.eV s003 4)] VU)
 SI:t 102=some (.code [s000] [(.tmp s002),(.tmp s003)] RJ)
 SK:t 103=some (.code [s000,s001,s002] [(.tmp s006)] JF)
 aaW:t 104=some (.code [s000,s001] [(.tmp s004)] Z3)
 rL:t 105=some (.code [s000,s001,s002,s003] [(.tmp s010)] ru)
 aaY:t 108=some (.code [s000] [(.tmp s002)] VV)
 aaZ:t 109=some (.code [s000,s001] [(.Cz s004),(.Cz s005)] Z5)
 SL:t 110=some (.code [s000,s001] [(.tmp s004),(.tmp s005)] RK)
 aa1:t 111=some (.code [s000] [(.eV s002 9)] Z7)
 abj:t 141=some (.code [s000] [(.tmp s002)] aai)
 aa4:t 121=some (.code [s000,s001] [(.tmp s004)] RL)
 aa5:t 122=some (.code [s000,s001] [(.tmp s004)] Z9)
 aa6:t 124=some (.code [s000,s001] [(.tmp s004),(.tmp s005)] aaa)
 aa7:t 125=some (.code [s000,s001] [(.tmp s004)] JG)
 aa2:t 113=some (.code [s000,s001] [(.tmp s004)] VW)
 aa3:t 114=some (.code [s000] [(.tmp s002)] Z8)
 k58:t 58=some (.code [s000] [(.tmp s002)] c58)
 aa8:t 126=some (.code [s000] [(.tmp s002),(.tmp s003),(.tmp s004)] aab)
 aa9:t 127=some (.code [s000,s001] [(.tmp s004)] RM)
 aba:t 129=some (.code [s000] [(.tmp s002)] aac)
 abb:t 132=some (.code [s000] [(.tmp s002)] aad)
 abc:t 133=some (.code [s000] [(.tmp s002)] aae)
 abd:t 134=some (.code [s000,s001,s002] [(.tmp s006)] Cf)
 abe:t 135=some (.code [s000] [(.tmp s002)] RN)
 XA:t 136=some (.code [s000,s001,s002] [(.tmp s003)] RO)
 abf:t 137=some (.code [s000,s001] [(.tmp s004)] VY)
 abg:t 138=some (.code [s000,s001] [(.tmp s004)] aaf)
 abh:t 139=some (.code [s000,s001] [(.tmp s004)] aag)
 abi:t 140=some (.code [s000] [(.tmp s002)] aah)
 abk:t 144=some (.code [s000] [(.tmp s002)] aaj)
 abl:t 145=some (.code [s000] [(.tmp s002)] aak)
 abm:t 146=some (.code [s000] [(.tmp s002)] aal)
 abn:t 147=some (.code [s000] [(.tmp s002)] ad4)
 abo:t 149=some (.code [s000] [(.tmp s002)] aam)
 abp:t 150=some (.code [s000,s001] [(.tmp s004)] aan)
 abq:t 151=some (.code [s000,s001] [(.tmp s004)] aao)
 abr:t 152=some (.code [s000,s001,s002] [(.tmp s004)] Mf)
 abt:t 153=some (.code [s000,s001] [(.tmp s004)] RP)
 abu:t 154=some (.code [s000] [(.tmp s002)] aap)
 abv:t 164=some (.code [s000] [(.tmp s002)] Mg)
 abw:t 165=some (.code [s000,s001] [] aaq)
 XB:t 166=some (.code [s000,s001] [] VZ)
 abx:t 167=some (.code [s000,s001] [(.tmp s004)] aar)
 aby:t 168=some (.code [s000,s001] [(.tmp s004)] RQ)
theorem aaF:aJ (λf=>(Tryz.prog.funcs[f]?).bind (je Tryz.prog f)):=by constructor<;>kernel_rfl
theorem aJ.over {t t':Nat->Option cW} (h:∀ f ∈ [4,18,8,12,36,37,20,16,6,10,11,13,14,22,42,43,44,45,46,79,48,50,55,35,51,56,117,81,82,83,107,49,52,53,38,80,32,21,23,33,34,54,57,85,86,87,88,90,91,92,93,94,95,96,97,98,99,100,101,102,103,104,105,108,109,110,111,141,121,122,124,125,113,114,58,126,127,129,132,133,134,135,136,137,138,139,140,144,145,146,147,149,150,151,152,153,154,164,165,166,167,168],t f=t' f) (c:aJ t'):aJ t:=⟨(h 4 (by decide)).trans c.k4,(h 18 (by decide)).trans c.k18,(h 8 (by decide)).trans c.k8,(h 12 (by decide)).trans c.k12,(h 36 (by decide)).trans c.k36,(h 37 (by decide)).trans c.k37,(h 20 (by decide)).trans c.k20,(h 16 (by decide)).trans c.k16,(h 6 (by decide)).trans c.k6,(h 10 (by decide)).trans c.k10,(h 11 (by decide)).trans c.k11,(h 13 (by decide)).trans c.k13,(h 14 (by decide)).trans c.k14,(h 22 (by decide)).trans c.k22,(h 42 (by decide)).trans c.k42,(h 43 (by decide)).trans c.k43,(h 44 (by decide)).trans c.k44,(h 45 (by decide)).trans c.k45,(h 46 (by decide)).trans c.k46,(h 79 (by decide)).trans c.k79,(h 48 (by decide)).trans c.k48,(h 50 (by decide)).trans c.k50,(h 55 (by decide)).trans c.k55,(h 35 (by decide)).trans c.k35,(h 51 (by decide)).trans c.k51,(h 56 (by decide)).trans c.k56,(h 117 (by decide)).trans c.Xz,(h 81 (by decide)).trans c.k81,(h 82 (by decide)).trans c.k82,(h 83 (by decide)).trans c.U3,(h 107 (by decide)).trans c.aaX,(h 49 (by decide)).trans c.k49,(h 52 (by decide)).trans c.k52,(h 53 (by decide)).trans c.k53,(h 38 (by decide)).trans c.k38,(h 80 (by decide)).trans c.XC,(h 32 (by decide)).trans c.k32,(h 21 (by decide)).trans c.k21,(h 23 (by decide)).trans c.k23,(h 33 (by decide)).trans c.k33,(h 34 (by decide)).trans c.k34,(h 54 (by decide)).trans c.k54,(h 57 (by decide)).trans c.k57,(h 85 (by decide)).trans c.k85,(h 86 (by decide)).trans c.k86,(h 87 (by decide)).trans c.k87,(h 88 (by decide)).trans c.k88,(h 90 (by decide)).trans c.k90,(h 91 (by decide)).trans c.k91,(h 92 (by decide)).trans c.k92,(h 93 (by decide)).trans c.k93,(h 94 (by decide)).trans c.k94,(h 95 (by decide)).trans c.k95,(h 96 (by decide)).trans c.k96,(h 97 (by decide)).trans c.k97,(h 98 (by decide)).trans c.k98,(h 99 (by decide)).trans c.k99,(h 100 (by decide)).trans c.aaU,(h 101 (by decide)).trans c.aaV,(h 102 (by decide)).trans c.SI,(h 103 (by decide)).trans c.SK,(h 104 (by decide)).trans c.aaW,(h 105 (by decide)).trans c.rL,(h 108 (by decide)).trans c.aaY,(h 109 (by decide)).trans c.aaZ,(h 110 (by decide)).trans c.SL,(h 111 (by decide)).trans c.aa1,(h 141 (by decide)).trans c.abj,(h 121 (by decide)).trans c.aa4,(h 122 (by decide)).trans c.aa5,(h 124 (by decide)).trans c.aa6,(h 125 (by decide)).trans c.aa7,(h 113 (by decide)).trans c.aa2,(h 114 (by decide)).trans c.aa3,(h 58 (by decide)).trans c.k58,(h 126 (by decide)).trans c.aa8,(h 127 (by decide)).trans c.aa9,(h 129 (by decide)).trans c.aba,(h 132 (by decide)).trans c.abb,(h 133 (by decide)).trans c.abc,(h 134 (by decide)).trans c.abd,(h 135 (by decide)).trans c.abe,(h 136 (by decide)).trans c.XA,(h 137 (by decide)).trans c.abf,(h 138 (by decide)).trans c.abg,(h 139 (by decide)).trans c.abh,(h 140 (by decide)).trans c.abi,(h 144 (by decide)).trans c.abk,(h 145 (by decide)).trans c.abl,(h 146 (by decide)).trans c.abm,(h 147 (by decide)).trans c.abn,(h 149 (by decide)).trans c.abo,(h 150 (by decide)).trans c.abp,(h 151 (by decide)).trans c.abq,(h 152 (by decide)).trans c.abr,(h 153 (by decide)).trans c.abt,(h 154 (by decide)).trans c.abu,(h 164 (by decide)).trans c.abv,(h 165 (by decide)).trans c.abw,(h 166 (by decide)).trans c.XB,(h 167 (by decide)).trans c.abx,(h 168 (by decide)).trans c.aby⟩
def II:List Nat:=[4,18,8,12,36,37,20,16,6,10,11,13,14,22,42,43,44,45,46,79,48,50,55,35,51,56,117,81,82,83,107,49,52,53,38,80,32,21,23,33,34,54,57,85,86,87,88,90,91,92,93,94,95,96,97,98,99,100,101,102,103,104,105,108,109,110,111,141,121,122,124,125,113,114,58,126,127,129,132,133,134,135,136,137,138,139,140,144,145,146,147,149,150,151,152,153,154,164,165,166,167,168]
end Go.Ev
