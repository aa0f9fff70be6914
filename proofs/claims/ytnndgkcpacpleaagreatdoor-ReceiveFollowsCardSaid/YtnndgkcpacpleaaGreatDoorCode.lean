/- The functions' code,as the evaluator has it. -/
import Derived.Test.YtnndgkcpacpleaaGreatDoorEvD
import Derived.Test.YtnndgkcpacpleaaGreatDoorLg
import Derived.Test.YtnndgkcpacpleaaGreatDoorProg
set_option maxRecDepth 100000
noncomputable section
set_option maxHeartbeats 0
namespace Go.Ev
open Go.Proofs
noncomputable def cd (n:Nat):ah:=match (Tryz.prog.funcs[n]?).bind (jz Tryz.prog n) with|some (.code _ _ c)=>c|_=>.bad
def hd:Nat->ah->ah
 | 0,.seq a _=>a
 | n+1,.seq _ b=>hd n b
 | _,c=>c
def cl:ah->List ah
 | .seq a b=>cl a++cl b
 | .cond _ a b=>cl a++cl b
 | .block _ a=>cl a
 | .loop a=>[a]
 | _=>[]
def lb (i:Nat) (c:ah):ah:=(cl c).getD i .bad
def rl:ah->List ah->(ah->List ah->ah)->ah
 | .seq a b,l,k=>rl a l λa l=>rl b l λb l=>k (.seq a b) l
 | .cond c a b,l,k=>rl a l λa l=>rl b l λb l=>k (.cond c a b) l
 | .block i a,l,k=>rl a l λa l=>k (.block i a) l
 | .loop _,x::l,k=>k (.loop x) l
 | c,l,k=>k c l
def lm (l:List ah) (c:ah):ah:=rl c l λc _=>c
def rp (i:Nat) (l:List ah) (c x:ah):ah:=.seq (lm l (hd i c)) x
def sp (i:Nat) (c x:ah):ah:=.seq (hd i c) x
abbrev oo (x:ah) {y:ah} (_:x=y):ah:=y
abbrev oA (x:ah->ah) {y:ah->ah} (_:x=y) (a:ah):ah:=y a
abbrev oB (x:ah->ah->ah) {y:ah->ah->ah} (_:x=y) (a b:ah):ah:=y a b
abbrev oD (x:ah->ah->ah->ah) {y:ah->ah->ah->ah} (_:x=y) (a b c:ah):ah:=y a b c
attribute [go_sem] oo oA oB oD
abbrev oP (d:Option Slot) (x:lA):rQ:=⟨0,d,none,0,x⟩
abbrev lt3 (x y:Arg):lA:=.cmp 3 (.lt 9223372036854775808 18446744073709551616) x y
abbrev gt3 (x y:Arg):lA:=.cmp 3 (.gt 9223372036854775808 18446744073709551616) x y
abbrev ne3 (x y:Arg):lA:=.cmp 3 .ne x y
abbrev eq3 (x y:Arg):lA:=.cmp 3 .eq x y
abbrev ad3 (x y:Arg):lA:=.bin 3 3 (.add 18446744073709551616) x y
abbrev sb3 (x y:Arg):lA:=.bin 3 3 (.sub 18446744073709551616) x y
abbrev kI (k n:Nat):Arg:=.c (.int k n)
abbrev oM (d:Option Slot) (x:Arg):rQ:=⟨0,d,none,0,.kN x⟩
abbrev oF (d:Option Slot) (n:Nat) (x:Arg):rQ:=⟨0,d,none,0,.fZ n x⟩
abbrev oL (d:Option Slot) (x:Arg):rQ:=⟨0,d,none,0,.cJ x⟩
abbrev oX (d:Option Slot) (x:Arg) (n:Nat):rQ:=⟨0,d,none,0,.RH x n⟩
abbrev oN (d:Option Slot) (x:Arg):rQ:=⟨0,d,none,0,.Kc x⟩
abbrev oC (d:Option Slot) (f:Nat) (l:List Arg):rQ:=⟨0,d,none,0,.call f l⟩
abbrev gF (a b c:I8):Option (Slot×Bool):=some (⟨a,b,c⟩,false)
abbrev gT (a b c:I8):Option (Slot×Bool):=some (⟨a,b,c⟩,true)
abbrev sR (l:List rQ) (b:ah):ah:=.seq (.sO l) b
abbrev s000:Slot:=⟨.i0,.i0,.i0⟩
abbrev s001:Slot:=⟨.i0,.i0,.i1⟩
abbrev s002:Slot:=⟨.i0,.i0,.i2⟩
abbrev s003:Slot:=⟨.i0,.i0,.i3⟩
abbrev s004:Slot:=⟨.i0,.i0,.i4⟩
abbrev s005:Slot:=⟨.i0,.i0,.i5⟩
abbrev s006:Slot:=⟨.i0,.i0,.i6⟩
abbrev s007:Slot:=⟨.i0,.i0,.i7⟩
abbrev s010:Slot:=⟨.i0,.i1,.i0⟩
abbrev s011:Slot:=⟨.i0,.i1,.i1⟩
abbrev s012:Slot:=⟨.i0,.i1,.i2⟩
abbrev s013:Slot:=⟨.i0,.i1,.i3⟩
abbrev s014:Slot:=⟨.i0,.i1,.i4⟩
abbrev s015:Slot:=⟨.i0,.i1,.i5⟩
abbrev s016:Slot:=⟨.i0,.i1,.i6⟩
abbrev s017:Slot:=⟨.i0,.i1,.i7⟩
abbrev s020:Slot:=⟨.i0,.i2,.i0⟩
abbrev s021:Slot:=⟨.i0,.i2,.i1⟩
abbrev s022:Slot:=⟨.i0,.i2,.i2⟩
abbrev s023:Slot:=⟨.i0,.i2,.i3⟩
abbrev s024:Slot:=⟨.i0,.i2,.i4⟩
abbrev s025:Slot:=⟨.i0,.i2,.i5⟩
abbrev s026:Slot:=⟨.i0,.i2,.i6⟩
abbrev s027:Slot:=⟨.i0,.i2,.i7⟩
abbrev s030:Slot:=⟨.i0,.i3,.i0⟩
abbrev s031:Slot:=⟨.i0,.i3,.i1⟩
abbrev s032:Slot:=⟨.i0,.i3,.i2⟩
abbrev s033:Slot:=⟨.i0,.i3,.i3⟩
abbrev s034:Slot:=⟨.i0,.i3,.i4⟩
abbrev s035:Slot:=⟨.i0,.i3,.i5⟩
abbrev s036:Slot:=⟨.i0,.i3,.i6⟩
abbrev s037:Slot:=⟨.i0,.i3,.i7⟩
abbrev s040:Slot:=⟨.i0,.i4,.i0⟩
abbrev s041:Slot:=⟨.i0,.i4,.i1⟩
abbrev s042:Slot:=⟨.i0,.i4,.i2⟩
abbrev s043:Slot:=⟨.i0,.i4,.i3⟩
abbrev s044:Slot:=⟨.i0,.i4,.i4⟩
abbrev s045:Slot:=⟨.i0,.i4,.i5⟩
abbrev s046:Slot:=⟨.i0,.i4,.i6⟩
abbrev s047:Slot:=⟨.i0,.i4,.i7⟩
abbrev s050:Slot:=⟨.i0,.i5,.i0⟩
abbrev s051:Slot:=⟨.i0,.i5,.i1⟩
abbrev s052:Slot:=⟨.i0,.i5,.i2⟩
abbrev s053:Slot:=⟨.i0,.i5,.i3⟩
abbrev s054:Slot:=⟨.i0,.i5,.i4⟩
abbrev s055:Slot:=⟨.i0,.i5,.i5⟩
abbrev s056:Slot:=⟨.i0,.i5,.i6⟩
abbrev s057:Slot:=⟨.i0,.i5,.i7⟩
abbrev s060:Slot:=⟨.i0,.i6,.i0⟩
abbrev s061:Slot:=⟨.i0,.i6,.i1⟩
abbrev s062:Slot:=⟨.i0,.i6,.i2⟩
abbrev s063:Slot:=⟨.i0,.i6,.i3⟩
abbrev s064:Slot:=⟨.i0,.i6,.i4⟩
abbrev s065:Slot:=⟨.i0,.i6,.i5⟩
abbrev s066:Slot:=⟨.i0,.i6,.i6⟩
abbrev s067:Slot:=⟨.i0,.i6,.i7⟩
abbrev s070:Slot:=⟨.i0,.i7,.i0⟩
abbrev s071:Slot:=⟨.i0,.i7,.i1⟩
abbrev s072:Slot:=⟨.i0,.i7,.i2⟩
abbrev s073:Slot:=⟨.i0,.i7,.i3⟩
abbrev s074:Slot:=⟨.i0,.i7,.i4⟩
abbrev s075:Slot:=⟨.i0,.i7,.i5⟩
abbrev s076:Slot:=⟨.i0,.i7,.i6⟩
abbrev s077:Slot:=⟨.i0,.i7,.i7⟩
abbrev s100:Slot:=⟨.i1,.i0,.i0⟩
abbrev s101:Slot:=⟨.i1,.i0,.i1⟩
abbrev s102:Slot:=⟨.i1,.i0,.i2⟩
abbrev s103:Slot:=⟨.i1,.i0,.i3⟩
abbrev s104:Slot:=⟨.i1,.i0,.i4⟩
abbrev s105:Slot:=⟨.i1,.i0,.i5⟩
abbrev s106:Slot:=⟨.i1,.i0,.i6⟩
abbrev s107:Slot:=⟨.i1,.i0,.i7⟩
abbrev s110:Slot:=⟨.i1,.i1,.i0⟩
abbrev s111:Slot:=⟨.i1,.i1,.i1⟩
abbrev s112:Slot:=⟨.i1,.i1,.i2⟩
abbrev s113:Slot:=⟨.i1,.i1,.i3⟩
abbrev s114:Slot:=⟨.i1,.i1,.i4⟩
abbrev s115:Slot:=⟨.i1,.i1,.i5⟩
abbrev s116:Slot:=⟨.i1,.i1,.i6⟩
abbrev s117:Slot:=⟨.i1,.i1,.i7⟩
abbrev s120:Slot:=⟨.i1,.i2,.i0⟩
abbrev s121:Slot:=⟨.i1,.i2,.i1⟩
abbrev s122:Slot:=⟨.i1,.i2,.i2⟩
abbrev s123:Slot:=⟨.i1,.i2,.i3⟩
abbrev s124:Slot:=⟨.i1,.i2,.i4⟩
abbrev s125:Slot:=⟨.i1,.i2,.i5⟩
abbrev s126:Slot:=⟨.i1,.i2,.i6⟩
abbrev s127:Slot:=⟨.i1,.i2,.i7⟩
abbrev s130:Slot:=⟨.i1,.i3,.i0⟩
abbrev s131:Slot:=⟨.i1,.i3,.i1⟩
abbrev s132:Slot:=⟨.i1,.i3,.i2⟩
abbrev s133:Slot:=⟨.i1,.i3,.i3⟩
abbrev s134:Slot:=⟨.i1,.i3,.i4⟩
abbrev s135:Slot:=⟨.i1,.i3,.i5⟩
abbrev s136:Slot:=⟨.i1,.i3,.i6⟩
abbrev s137:Slot:=⟨.i1,.i3,.i7⟩
abbrev s140:Slot:=⟨.i1,.i4,.i0⟩
abbrev s141:Slot:=⟨.i1,.i4,.i1⟩
abbrev s142:Slot:=⟨.i1,.i4,.i2⟩
abbrev s143:Slot:=⟨.i1,.i4,.i3⟩
abbrev s144:Slot:=⟨.i1,.i4,.i4⟩
abbrev s145:Slot:=⟨.i1,.i4,.i5⟩
abbrev s146:Slot:=⟨.i1,.i4,.i6⟩
abbrev s147:Slot:=⟨.i1,.i4,.i7⟩
abbrev s150:Slot:=⟨.i1,.i5,.i0⟩
abbrev s151:Slot:=⟨.i1,.i5,.i1⟩
abbrev s152:Slot:=⟨.i1,.i5,.i2⟩
abbrev s153:Slot:=⟨.i1,.i5,.i3⟩
abbrev s154:Slot:=⟨.i1,.i5,.i4⟩
abbrev s155:Slot:=⟨.i1,.i5,.i5⟩
abbrev s156:Slot:=⟨.i1,.i5,.i6⟩
abbrev s157:Slot:=⟨.i1,.i5,.i7⟩
abbrev s160:Slot:=⟨.i1,.i6,.i0⟩
abbrev s161:Slot:=⟨.i1,.i6,.i1⟩
abbrev s162:Slot:=⟨.i1,.i6,.i2⟩
abbrev s163:Slot:=⟨.i1,.i6,.i3⟩
abbrev s164:Slot:=⟨.i1,.i6,.i4⟩
abbrev s165:Slot:=⟨.i1,.i6,.i5⟩
abbrev fF:Arg:=.s s000
abbrev ja:Arg:=.s s001
abbrev Dz:Arg:=.s s002
abbrev iC:Arg:=.s s003
abbrev eF:Arg:=.s s004
abbrev l4:Arg:=.s s005
abbrev jb:Arg:=.s s006
abbrev gu:Arg:=.s s007
abbrev jM:Arg:=.s s010
abbrev lM:Arg:=.s s011
abbrev l7:Arg:=.s s012
abbrev tf:Arg:=.s s013
abbrev kz:Arg:=.s s014
abbrev og:Arg:=.s s015
abbrev qX:Arg:=.s s016
abbrev rT:Arg:=.s s017
abbrev rU:Arg:=.s s020
abbrev wo:Arg:=.s s021
abbrev wq:Arg:=.s s022
abbrev wu:Arg:=.s s023
abbrev wv:Arg:=.s s024
abbrev wy:Arg:=.s s025
abbrev wz:Arg:=.s s026
abbrev wA:Arg:=.s s027
abbrev wB:Arg:=.s s030
abbrev wC:Arg:=.s s031
abbrev uZ:Arg:=.s s032
abbrev wD:Arg:=.s s033
abbrev rV:Arg:=.s s034
abbrev Br:Arg:=.s s035
abbrev Bs:Arg:=.s s036
abbrev Bt:Arg:=.s s037
abbrev Bu:Arg:=.s s040
abbrev Bv:Arg:=.s s041
abbrev DA:Arg:=.s s042
abbrev y9:Arg:=.s s043
abbrev DB:Arg:=.s s044
abbrev Bw:Arg:=.s s045
abbrev DC:Arg:=.s s046
abbrev DD:Arg:=.s s047
abbrev DE:Arg:=.s s050
abbrev DF:Arg:=.s s051
abbrev DG:Arg:=.s s052
abbrev DH:Arg:=.s s053
abbrev DI:Arg:=.s s054
abbrev DJ:Arg:=.s s055
abbrev DK:Arg:=.s s056
abbrev DL:Arg:=.s s057
abbrev DM:Arg:=.s s060
abbrev DN:Arg:=.s s061
abbrev wE:Arg:=.s s062
abbrev DO:Arg:=.s s063
abbrev DP:Arg:=.s s064
abbrev DQ:Arg:=.s s065
abbrev DS:Arg:=.s s066
abbrev DT:Arg:=.s s067
abbrev DU:Arg:=.s s070
abbrev DV:Arg:=.s s071
abbrev Bx:Arg:=.s s072
abbrev DW:Arg:=.s s073
abbrev zf:Arg:=.s s074
abbrev DX:Arg:=.s s075
abbrev DY:Arg:=.s s076
abbrev DZ:Arg:=.s s077
abbrev IZ:Arg:=.s s100
abbrev I0:Arg:=.s s101
abbrev I3:Arg:=.s s102
abbrev I4:Arg:=.s s103
abbrev MN:Arg:=.s s104
abbrev a105:Arg:=.s s105
abbrev O9:Arg:=.s s106
abbrev a107:Arg:=.s s107
abbrev Pa:Arg:=.s s110
abbrev Ux:Arg:=.s s111
abbrev Uy:Arg:=.s s112
abbrev Uz:Arg:=.s s113
abbrev UA:Arg:=.s s114
abbrev UB:Arg:=.s s115
abbrev a116:Arg:=.s s116
abbrev a117:Arg:=.s s117
abbrev UC:Arg:=.s s120
abbrev UD:Arg:=.s s121
abbrev UE:Arg:=.s s122
abbrev UF:Arg:=.s s123
abbrev a124:Arg:=.s s124
abbrev ab3:Arg:=.s s125
abbrev ab4:Arg:=.s s126
abbrev a127:Arg:=.s s127
abbrev a130:Arg:=.s s130
abbrev a131:Arg:=.s s131
abbrev afx:Arg:=.s s132
abbrev afy:Arg:=.s s133
abbrev afz:Arg:=.s s134
abbrev afA:Arg:=.s s135
abbrev ahB:Arg:=.s s136
abbrev ahC:Arg:=.s s137
abbrev ahD:Arg:=.s s140
abbrev a141:Arg:=.s s141
abbrev ahE:Arg:=.s s142
abbrev a143:Arg:=.s s143
abbrev ahF:Arg:=.s s144
abbrev a145:Arg:=.s s145
abbrev a146:Arg:=.s s146
abbrev ahG:Arg:=.s s147
abbrev ahH:Arg:=.s s150
abbrev ahI:Arg:=.s s151
abbrev a152:Arg:=.s s152
abbrev ahJ:Arg:=.s s153
abbrev a154:Arg:=.s s154
abbrev ahK:Arg:=.s s155
abbrev a156:Arg:=.s s156
abbrev a157:Arg:=.s s157
abbrev a160:Arg:=.s s160
abbrev ahL:Arg:=.s s161
abbrev a162:Arg:=.s s162
abbrev ahM:Arg:=.s s163
abbrev a164:Arg:=.s s164
abbrev ahN:Arg:=.s s165
abbrev ahO:Option Slot:=some s000
abbrev afT:Option Slot:=some s001
abbrev tL:Option Slot:=some s002
abbrev sj:Option Slot:=some s003
abbrev gZ:Option Slot:=some s004
abbrev jg:Option Slot:=some s005
abbrev lP:Option Slot:=some s006
abbrev oT:Option Slot:=some s007
abbrev oU:Option Slot:=some s010
abbrev ve:Option Slot:=some s011
abbrev xb:Option Slot:=some s012
abbrev xd:Option Slot:=some s013
abbrev tM:Option Slot:=some s014
abbrev xe:Option Slot:=some s015
abbrev xf:Option Slot:=some s016
abbrev vh:Option Slot:=some s017
abbrev zq:Option Slot:=some s020
abbrev xg:Option Slot:=some s021
abbrev zy:Option Slot:=some s022
abbrev xh:Option Slot:=some s023
abbrev xi:Option Slot:=some s024
abbrev xj:Option Slot:=some s025
abbrev xk:Option Slot:=some s026
abbrev xm:Option Slot:=some s027
abbrev xp:Option Slot:=some s030
abbrev xq:Option Slot:=some s031
abbrev zC:Option Slot:=some s032
abbrev zD:Option Slot:=some s033
abbrev zE:Option Slot:=some s034
abbrev BW:Option Slot:=some s035
abbrev BX:Option Slot:=some s036
abbrev BY:Option Slot:=some s037
abbrev BZ:Option Slot:=some s040
abbrev EP:Option Slot:=some s041
abbrev ER:Option Slot:=some s042
abbrev B3:Option Slot:=some s043
abbrev ES:Option Slot:=some s044
abbrev ET:Option Slot:=some s045
abbrev EU:Option Slot:=some s046
abbrev EV:Option Slot:=some s047
abbrev EW:Option Slot:=some s050
abbrev EX:Option Slot:=some s051
abbrev EY:Option Slot:=some s052
abbrev EZ:Option Slot:=some s053
abbrev Fa:Option Slot:=some s054
abbrev Fb:Option Slot:=some s055
abbrev Fc:Option Slot:=some s056
abbrev Fe:Option Slot:=some s057
abbrev Ff:Option Slot:=some s060
abbrev Fg:Option Slot:=some s061
abbrev B4:Option Slot:=some s062
abbrev Fh:Option Slot:=some s063
abbrev Fi:Option Slot:=some s064
abbrev Fj:Option Slot:=some s065
abbrev Fk:Option Slot:=some s066
abbrev Fl:Option Slot:=some s067
abbrev Fm:Option Slot:=some s070
abbrev Fo:Option Slot:=some s071
abbrev Fp:Option Slot:=some s072
abbrev Fq:Option Slot:=some s073
abbrev B5:Option Slot:=some s074
abbrev Fs:Option Slot:=some s075
abbrev Ft:Option Slot:=some s076
abbrev Fu:Option Slot:=some s077
abbrev d100:Option Slot:=some s100
abbrev d101:Option Slot:=some s101
abbrev d102:Option Slot:=some s102
abbrev d103:Option Slot:=some s103
abbrev d104:Option Slot:=some s104
abbrev d105:Option Slot:=some s105
abbrev d106:Option Slot:=some s106
abbrev d107:Option Slot:=some s107
abbrev d110:Option Slot:=some s110
abbrev d111:Option Slot:=some s111
abbrev d112:Option Slot:=some s112
abbrev d113:Option Slot:=some s113
abbrev d114:Option Slot:=some s114
abbrev d115:Option Slot:=some s115
abbrev d116:Option Slot:=some s116
abbrev d117:Option Slot:=some s117
abbrev d120:Option Slot:=some s120
abbrev d121:Option Slot:=some s121
abbrev d122:Option Slot:=some s122
abbrev d123:Option Slot:=some s123
abbrev d124:Option Slot:=some s124
abbrev d125:Option Slot:=some s125
abbrev d126:Option Slot:=some s126
abbrev d127:Option Slot:=some s127
abbrev d130:Option Slot:=some s130
abbrev d131:Option Slot:=some s131
abbrev d132:Option Slot:=some s132
abbrev d133:Option Slot:=some s133
abbrev d134:Option Slot:=some s134
abbrev d135:Option Slot:=some s135
abbrev d136:Option Slot:=some s136
abbrev d137:Option Slot:=some s137
abbrev d140:Option Slot:=some s140
abbrev d141:Option Slot:=some s141
abbrev d142:Option Slot:=some s142
abbrev d143:Option Slot:=some s143
abbrev d144:Option Slot:=some s144
abbrev d145:Option Slot:=some s145
abbrev d146:Option Slot:=some s146
abbrev d147:Option Slot:=some s147
abbrev d150:Option Slot:=some s150
abbrev d151:Option Slot:=some s151
abbrev d152:Option Slot:=some s152
abbrev d153:Option Slot:=some s153
abbrev d154:Option Slot:=some s154
abbrev d155:Option Slot:=some s155
abbrev d156:Option Slot:=some s156
abbrev d157:Option Slot:=some s157
abbrev d160:Option Slot:=some s160
abbrev d161:Option Slot:=some s161
abbrev d162:Option Slot:=some s162
abbrev d163:Option Slot:=some s163
abbrev d164:Option Slot:=some s164
abbrev d165:Option Slot:=some s165
def C4:=oo (cd 4) (by conv=>lhs;reduce)
def lf:=oo (lb 0 C4) (by conv=>lhs;reduce)
def ac0:ah:=.ret
def acZ:=oA (sp 7 C4) (by conv=>lhs;reduce) ac0
def acY:=oB (λa x=>rp 6 [a] C4 x) (by conv=>lhs;reduce) lf acZ
def acX:=oA (sp 5 C4) (by conv=>lhs;reduce) acY
def acW:=oA (sp 4 C4) (by conv=>lhs;reduce) acX
def acV:=oA (sp 3 C4) (by conv=>lhs;reduce) acW
def acU:=oA (sp 2 C4) (by conv=>lhs;reduce) acV
def acT:=oA (sp 1 C4) (by conv=>lhs;reduce) acU
def c4:=oA (sp 0 C4) (by conv=>lhs;reduce) acT
def c90:=oo (cd 90) (by conv=>lhs;reduce)
def C9:=oo (cd 9) (by conv=>lhs;reduce)
def adj:ah:=.ret
def adi:=oA (sp 7 C9) (by conv=>lhs;reduce) adj
def adh:=oA (sp 6 C9) (by conv=>lhs;reduce) adi
def adg:=oA (sp 5 C9) (by conv=>lhs;reduce) adh
def adf:=oA (sp 4 C9) (by conv=>lhs;reduce) adg
def ade:=oA (sp 3 C9) (by conv=>lhs;reduce) adf
def adb:=oA (sp 2 C9) (by conv=>lhs;reduce) ade
def ada:=oA (sp 1 C9) (by conv=>lhs;reduce) adb
def c9:=oA (sp 0 C9) (by conv=>lhs;reduce) ada
def C35:=oo (cd 35) (by conv=>lhs;reduce)
def Ek:=oo (lb 0 C35) (by conv=>lhs;reduce)
def c35:=oA (λa=>lm [a] C35) (by conv=>lhs;reduce) Ek
def Eu:ah:=(sR [oP d110 (lt3 a107 O9)] (.seq (.cond Pa .skip (.exit 0)) (.seq (.block 1 (sR [oM d111 a107,oP d112 (.xR 2 a105 a107),oP d113 (.bR 2 Uy),oP vh (.ir [(.int 3 0),(.str 0 0)]),oM xf Ux,oP none (.ei 2 rT Uz)] (.sm [⟨0,d114,none,1,(.cJ kz)⟩,oF d115 0 rT,⟨0,d116,none,1,(.cJ UB)⟩,oM d117 lM,oM d120 qX,oP d121 (.xR 1 a117 UC),⟨0,d122,none,1,(.cJ UD)⟩,oP d123 (.xR 1 UA a116),oP none (.eh UF UE)]))) (.sO [oP d124 (ad3 a107 (kI 3 1)),oM d107 a124]))))
def P4:ah:=.ret
def X4:ah:=(sR [oM d125 fF,oM d126 l7,oP d127 (.Su 308 [eF,kz]),oP d130 (.iF false 2 [.lV,.lV] [⟨0,⟨1,(.c (.func 126 []))⟩⟩,⟨1,⟨1,a127⟩⟩]),oC d131 112 [ab3,ab4,a130],oM lP a131] P4)
def X3:ah:=(.seq (sR [oM d105 Dz,oP d106 (.fD a105),oM d107 (kI 3 0)] (.block 0 (.loop Eu))) X4)
def P7:ah:=(sR [oL d103 kz,oC d104 286 [I4],oP none (.eh kz MN)] X3)
def Ac:ah:=(.seq (sR [oM EX fF,oN EY DF,oF EZ 0 DG,oF Fa 2 DH,oP Fb (.bR 7 DI),oP xe (.ir [(.int 7 0),(.int 7 0),(.int 7 0),(.int 7 0),(.int 3 0),(.int 3 0),.az]),oP none (.ei 7 og DJ)] (sR [oF Fc 0 og,oP Fe (.bR 2 DK),oF Ff 0 eF,oP Fg (.bR 2 DM),oP B4 (.gf [1,1] false DL DN),oM Fh wE,⟨0,Fi,(gT .i0 .i6 .i3),0,(.fZ 2 og)⟩,⟨0,Fj,(gT .i0 .i6 .i3),0,(.bR 2 DP)⟩,⟨0,Fk,(gT .i0 .i6 .i3),0,(.fZ 2 eF)⟩,⟨0,Fl,(gT .i0 .i6 .i3),0,(.bR 2 DS)⟩,⟨0,Fm,(gT .i0 .i6 .i3),0,(.gf [1,1] false DQ DT)⟩,oP Fo (.pick DO DU (.c (.bool false))),oM Fp DV,⟨0,Fq,(gT .i0 .i7 .i2),0,(.fZ 5 og)⟩,⟨0,B5,(gT .i0 .i7 .i2),0,(.cJ DW)⟩,⟨0,Fs,(gT .i0 .i7 .i2),0,(.fZ 5 eF)⟩,⟨0,Ft,(gT .i0 .i7 .i2),0,(.cJ DX)⟩,⟨0,Fu,(gT .i0 .i7 .i2),0,(eq3 zf DY)⟩,oP d100 (.pick Bx DZ (.c (.bool false)))] (.cond IZ (.sO [oF d101 6 og,oL d102 I0,oP none (.eh kz I3)]) .skip))) P7)
def X2:ah:=(sR [oM EU fF,oC EV 306 [DC],oP EW (.RN 2 DD),oP tM (.ir [.az]),oP none (.eh kz DE)] Ac)
def P6:ah:=(.seq (sR [oM B3 tf,oP ES (ne3 y9 (kI 3 0))] (.cond DB (sR [oM ET tf,oM lP Bw] .ret) .skip)) X2)
def P5:ah:=(sR [oM BW fF,oM BX Dz,oC BY 110 [Br,Bs],oM zE Bt,oX BZ rV 0,oX EP rV 1,oX ER rV 2,oM ve Bu,oM xb Bv,oM xd DA] P6)
def LR:ah:=(.seq (sR [oM xj fF,oP xk (.bR 7 eF),oM xm Dz,oC xp 304 [wy,wz,wA],oM oU wB] (sR [oM xq jM,oP zC (ne3 wC (kI 3 0))] (.cond uZ (sR [oM zD jM,oM lP wD] .ret) .skip))) P5)
def LQ:ah:=(.seq (sR [oM zq fF,oC xg 106 [rU],oM oT wo] (sR [oM zy gu,oP xh (ne3 wq (kI 3 0))] (.cond wu (sR [oM xi gu,oM lP wv] .ret) .skip))) LR)
def c82:ah:=(sR [oP gZ (.box ja),oM lP (kI 3 0)] LQ)
def c71:=oo (cd 71) (by conv=>lhs;reduce)
def c5:=oo (cd 5) (by conv=>lhs;reduce)
def C7:=oo (cd 7) (by conv=>lhs;reduce)
def P3:=oo (lb 0 C7) (by conv=>lhs;reduce)
def ac9:ah:=.ret
def ac8:=oA (sp 7 C7) (by conv=>lhs;reduce) ac9
def ac7:=oB (λa x=>rp 6 [a] C7 x) (by conv=>lhs;reduce) P3 ac8
def ac6:=oA (sp 5 C7) (by conv=>lhs;reduce) ac7
def ac5:=oA (sp 4 C7) (by conv=>lhs;reduce) ac6
def ac4:=oA (sp 3 C7) (by conv=>lhs;reduce) ac5
def ac3:=oA (sp 2 C7) (by conv=>lhs;reduce) ac4
def ac2:=oA (sp 1 C7) (by conv=>lhs;reduce) ac3
def c7:=oA (sp 0 C7) (by conv=>lhs;reduce) ac2
def c18:=oo (cd 18) (by conv=>lhs;reduce)
def C31:=oo (cd 31) (by conv=>lhs;reduce)
def zV:=oo (lb 0 C31) (by conv=>lhs;reduce)
def c31:=oA (λa=>lm [a] C31) (by conv=>lhs;reduce) zV
def C32:=oo (cd 32) (by conv=>lhs;reduce)
def XO:ah:=.ret
def XN:=oA (sp 5 C32) (by conv=>lhs;reduce) XO
def XM:=oA (sp 4 C32) (by conv=>lhs;reduce) XN
def XL:=oA (sp 3 C32) (by conv=>lhs;reduce) XM
def XK:=oA (sp 2 C32) (by conv=>lhs;reduce) XL
def XJ:=oA (sp 1 C32) (by conv=>lhs;reduce) XK
def c32:=oA (sp 0 C32) (by conv=>lhs;reduce) XJ
def XQ:ah:=.ret
def zZ:ah:=(sR [oP Fs (.bR 7 og),oM Ft kz,oP Fu (eq3 DY (kI 3 0)),oP none (.ei 7 eF DX),oM jg DZ] XQ)
def uv:ah:=(.seq (.sm [⟨0,Fh,none,1,(.bR 2 gu)⟩,oM Fi l7,oM Fj jb,oP Fk (.xR 2 DP DQ),⟨0,Fl,none,1,(.bR 2 DS)⟩,oM Fm tf,oM Fo lM,oC Fp 176 [DO,DT,DU,DV],oM B4 Bx,oX Fq wE 0,oX B5 wE 1,⟨0,xe,none,1,(.ir [(.int 7 0),(.int 7 0),(.int 7 0),(.int 7 0),(.int 3 0),(.int 3 0),.az])⟩,oP none (.ei 7 og DW),oM tM zf]) zZ)
def zW:ah:=(.seq (.seq (.sm [oM ER kz,oP B3 (ne3 DA (kI 3 0)),oM ES y9,⟨0,ET,(gF .i0 .i4 .i4),1,(.bR 2 jM)⟩,⟨0,EU,(gF .i0 .i4 .i4),1,(.call 178 [(kI 7 0),(kI 7 0)])⟩,⟨0,EV,(gF .i0 .i4 .i4),0,(.gf [1,1] true Bw DC)⟩,⟨0,EW,(gF .i0 .i4 .i4),0,(.kN DD)⟩,⟨0,EX,(gT .i0 .i5 .i0),1,(.bR 2 jM)⟩,⟨0,EY,(gT .i0 .i5 .i0),0,(.kN l7)⟩,⟨0,EZ,(gT .i0 .i5 .i0),0,(.kN jb)⟩,⟨0,Fa,(gT .i0 .i5 .i0),0,(.xR 2 DG DH)⟩,⟨0,Fb,(gT .i0 .i5 .i0),1,(.bR 2 DI)⟩,⟨0,Fc,(gT .i0 .i5 .i0),0,(.gf [1,1] true DF DJ)⟩,⟨0,Fe,(gF .i0 .i4 .i4),0,(.pick DE DK (.c (.bool false)))⟩,oP Ff (.pick DB (.c (.bool true)) DL)]) (.cond DM (sR [oP Fg (.build [(.int 7 0),(.int 7 0),(.int 7 0),(.int 7 0),(.int 3 0),(.int 3 0),.az] []),oP none (.ei 7 eF DN),oP jg (.kN (.c (.bool false)))] .ret) .skip)) uv)
def XP:ah:=(sR [oM BW ja,oM BX jb,oC BY 186 [Br,Bs],oM zE Bt,oX BZ rV 0,oX EP rV 1,oM xd Bu,oM tM Bv] zW)
def Pz:ah:=(.seq (sR [oM xm jb,oM xp l7,oP xq (.fD wB),oP zC (.cmp 3 (.ge 9223372036854775808 18446744073709551616) wA wC)] (.cond uZ (sR [oP zD (.build [(.int 7 0),(.int 7 0),(.int 7 0),(.int 7 0),(.int 3 0),(.int 3 0),.az] []),oP none (.ei 7 eF wD),oP jg (.kN (.c (.bool false)))] .ret) .skip)) XP)
def Py:ah:=(sR [oM xj ja,oC xk 72 [wy],oM xb wz] Pz)
def Px:ah:=(sR [oM vh fF,oC zq 50 [rT],oM xf rU,oX xg qX 0,oX zy qX 1,oX xh qX 2,oX xi qX 3,oP oT (.ir [(.int 7 0),(.int 7 0)]),oP oU (.ir [(.int 7 0),(.int 7 0)]),oM lP wo,oP none (.ei 2 gu wq),oP none (.ei 2 jM wu),oM ve wv] Py)
def c33:ah:=(sR [oP gZ (.ir [(.int 7 0),(.int 7 0),(.int 7 0),(.int 7 0),(.int 3 0),(.int 3 0),.az]),oP jg (.kN (.c (.bool false)))] Px)
def XI:ah:=.ret
def Pw:ah:=(sR [oM Fm fF,oF Fo 0 iC,oP Fp (.bR 2 DV),oF Fq 2 iC,oP B5 (.bR 2 DW),oF Fs 4 iC,oL Ft DX,oF Fu 6 iC,oL d100 DZ,oP d101 (.fD IZ),oP d102 (ad3 DY I0),oF d103 5 iC,oL d104 I4,oP d105 (.build [(.int 7 0),(.int 7 0),(.int 7 0),(.int 7 0),(.int 3 0),(.int 3 0),.az] [⟨0,⟨2,Bx⟩⟩,⟨2,⟨2,zf⟩⟩,⟨4,⟨1,I3⟩⟩,⟨5,⟨1,MN⟩⟩]),oF d106 6 iC,oL d107 O9,oC d110 164 [DU,a105,a107],oM gZ Pa] XI)
def Eh:ah:=(.seq (sR [oM Fj og,oP Fk (ne3 DQ (kI 3 0))] (.cond DS (sR [oM Fl og,oM gZ DT] .ret) .skip)) Pw)
def XH:ah:=(sR [oP Fe (.Su 150 [iC]),oP Ff (.Su 154 [iC,jb]),oP Fg (.Su 158 [iC,l7,kz]),oP B4 (.Su 162 [iC,tf,lM]),oP Fh (.iF false 4 [.lV,.lV,.lV,.lV] [⟨0,⟨1,DL⟩⟩,⟨1,⟨1,DM⟩⟩,⟨2,⟨1,DN⟩⟩,⟨3,⟨1,wE⟩⟩]),oC Fi 148 [DO],oM xe DP] Eh)
def Eg:ah:=(sR [oP Fc (.Su 146 [l7]),oP tM (.ir [.lV]),oP none (.eh kz DK)] XH)
def Ef:ah:=(sR [oF zD 0 lM,oP zE (.bR 2 wD),oF BW 0 iC,oP BX (.bR 2 Br),oP BY (.gf [1,1] false rV Bs),oM BZ Bt,⟨0,EP,(gT .i0 .i4 .i0),0,(.fZ 2 lM)⟩,⟨0,ER,(gT .i0 .i4 .i0),0,(.bR 2 Bv)⟩,⟨0,B3,(gT .i0 .i4 .i0),0,(.fZ 2 iC)⟩,⟨0,ES,(gT .i0 .i4 .i0),0,(.bR 2 y9)⟩,⟨0,ET,(gT .i0 .i4 .i0),0,(.gf [1,1] false DA DB)⟩,oP EU (.pick Bu Bw (.c (.bool false))),oM EV DC,⟨0,EW,(gT .i0 .i4 .i7),0,(.fZ 5 lM)⟩,⟨0,EX,(gT .i0 .i4 .i7),0,(.cJ DE)⟩,⟨0,EY,(gT .i0 .i4 .i7),0,(.fZ 5 iC)⟩,⟨0,EZ,(gT .i0 .i4 .i7),0,(.cJ DG)⟩,⟨0,Fa,(gT .i0 .i4 .i7),0,(eq3 DF DH)⟩,oP Fb (.pick DD DI (.c (.bool false))),oP xd (.ir [(.bool false)]),oP none (.eh tf DJ)] Eg)
def XG:ah:=(sR [oM xm fF,oC xp 142 [wA],oM xq fF,oC zC 144 [wC],oP ve (.ir [(.int 7 0),(.int 7 0),(.int 7 0),(.int 7 0),(.int 3 0),(.int 3 0),.az]),oP xb (.ir [(.int 3 0)]),oP none (.ei 7 lM wB),oP none (.eh l7 uZ)] Ef)
def XF:ah:=(sR [oM xg fF,oC zy 50 [wo],oM zq wq,oX xh rU 0,oX xi rU 1,oX xj rU 2,oX xk rU 3,oP lP (.ir [(.int 7 0),(.int 7 0)]),oP oT (.ir [(.int 7 0),(.int 7 0)]),oM jg wu,oP none (.ei 2 jb wv),oP none (.ei 2 gu wy),oM oU wz] XG)
def XE:ah:=(.seq (sR [oM xf fF,oP vh (.eqv 1 false qX (.c .pK))] (.cond rT (sR [oM gZ (kI 3 1)] .ret) .skip)) XF)
def c23:ah:=(sR [oP sj (.box ja),oM gZ (kI 3 0)] XE)
def Ei:ah:=(.seq (sR [oM d106 kz,oM d107 jM,oP d110 (.fD a107),oP d111 (lt3 O9 Pa)] (.cond Ux .skip (.exit 2))) (.seq (.block 3 (.seq (.sm [oM d114 jM,oM d115 kz,oP d116 (.xR 1 UA UB),⟨0,d117,none,1,(.cJ a116)⟩,oM d120 l7,oM d121 kz,oP d122 (.xR 1 UC UD),⟨0,d123,none,1,(.cJ UE)⟩,oP d124 (.KU true a117 UF)]) (.cond a124 (sR [oP gZ (.kN (.c (.bool false)))] .ret) .skip))) (.sO [oM d112 kz,oP d113 (ad3 Uy (kI 3 1)),oM tM Uz])))
def Ej:ah:=(.seq (sR [oM xk gu,oM xm l4,oP xp (.fD wA),oP xq (lt3 wz wB)] (.cond wC .skip (.exit 0))) (.seq (.block 1 (sR [oM BW fF,oM BX l4,oM BY gu,oP BZ (.xR 2 Bs Bt),oP EP (.bR 2 Bu),oC ER 188 [Br,Bv],oM zE DA,oX B3 rV 0,oX ES rV 1,oM oU y9,oM ve DB] (sR [oM EU ja,oM EV jb,oM EW gu,oP EX (.xR 2 DD DE),oP EY (.bR 2 DF),oC EZ 190 [DC,DG],oM ET DH,oX Fa Bw 0,oX Fb Bw 1,oM xb DI,oM xd DJ] (.seq (.seq (.sm [oM Fc l4,oM Fe gu,oP Ff (.xR 2 DK DL),⟨0,Fg,none,1,(.bR 2 DM)⟩,oM B4 jb,oM Fh gu,oP Fi (.xR 2 wE DO),⟨0,Fj,none,1,(.bR 2 DP)⟩,oP Fk (.gf [1,1] true DN DQ),oM Fl DS,⟨0,Fm,(gF .i0 .i6 .i7),0,(.kN lM)⟩,⟨0,Fo,(gF .i0 .i6 .i7),0,(ne3 DU (kI 3 0))⟩,oP Fp (.pick DT (.c (.bool true)) DV),oM Fq Bx,⟨0,B5,(gF .i0 .i7 .i3),0,(.kN tf)⟩,⟨0,Fs,(gF .i0 .i7 .i3),0,(ne3 zf (kI 3 0))⟩,oP Ft (.pick DW (.c (.bool true)) DX),oM Fu DY,⟨0,d100,(gF .i0 .i7 .i7),0,(.kN jM)⟩,⟨0,d101,(gF .i0 .i7 .i7),1,(.fD IZ)⟩,⟨0,d102,(gF .i0 .i7 .i7),0,(.kN l7)⟩,⟨0,d103,(gF .i0 .i7 .i7),1,(.fD I3)⟩,⟨0,d104,(gF .i0 .i7 .i7),0,(ne3 I0 I4)⟩,oP d105 (.pick DZ (.c (.bool true)) MN)]) (.cond a105 (sR [oP gZ (.kN (.c (.bool false)))] .ret) .skip)) (sR [oM tM (kI 3 0)] (.block 2 (.loop Ei))))))) (.sO [oM zC gu,oP zD (ad3 uZ (kI 3 1)),oM oT wD])))
def XW:ah:=.ret
def XV:ah:=(sR [oP gZ (.kN (.c (.bool true)))] XW)
def XU:ah:=(.seq (sR [oM oT (kI 3 0)] (.block 0 (.loop Ej))) XV)
def XT:ah:=(.seq (sR [oM xg l4,oP zy (.fD wo),oM xh jb,oP xi (.fD wu),oP xj (gt3 wq wv)] (.cond wy (sR [oP gZ (.kN (.c (.bool false)))] .ret) .skip)) XU)
def XR:ah:=(sR [oM xe fF,oC xf 70 [og],oM vh ja,oC zq 72 [rT],oM jg qX,oM lP rU] XT)
def c34:ah:=(sR [oP gZ (.kN (.c (.bool false)))] XR)
def C36:=oo (cd 36) (by conv=>lhs;reduce)
def LG:=oo (lb 0 C36) (by conv=>lhs;reduce)
def c36:=oA (λa=>lm [a] C36) (by conv=>lhs;reduce) LG
def c72:=oo (cd 72) (by conv=>lhs;reduce)
def c94:=oo (cd 94) (by conv=>lhs;reduce)
def C159:=oo (cd 159) (by conv=>lhs;reduce)
def wO:=oo (lb 0 C159) (by conv=>lhs;reduce)
def acw:=oA (λa=>lm [a] C159) (by conv=>lhs;reduce) wO
def Z1:=oo (cd 160) (by conv=>lhs;reduce)
def c92:=oo (cd 92) (by conv=>lhs;reduce)
def C44:=oo (cd 44) (by conv=>lhs;reduce)
def Em:=oo (lb 0 C44) (by conv=>lhs;reduce)
def c44:=oA (λa=>lm [a] C44) (by conv=>lhs;reduce) Em
def C45:=oo (cd 45) (by conv=>lhs;reduce)
def LH:=oo (lb 0 C45) (by conv=>lhs;reduce)
def acR:ah:=.ret
def acQ:=oA (sp 3 C45) (by conv=>lhs;reduce) acR
def XZ:ah:=(.seq (.block 0 (.loop LH)) acQ)
def XY:=oA (sp 1 C45) (by conv=>lhs;reduce) XZ
def c45:=oA (sp 0 C45) (by conv=>lhs;reduce) XY
def C46:=oo (cd 46) (by conv=>lhs;reduce)
def Jl:ah:=.ret
def Jk:=oA (sp 11 C46) (by conv=>lhs;reduce) Jl
def Jj:=oA (sp 10 C46) (by conv=>lhs;reduce) Jk
def PJ:=oA (sp 9 C46) (by conv=>lhs;reduce) Jj
def PI:=oA (sp 8 C46) (by conv=>lhs;reduce) PJ
def PH:=oA (sp 7 C46) (by conv=>lhs;reduce) PI
def PG:=oA (sp 6 C46) (by conv=>lhs;reduce) PH
def PF:=oA (sp 5 C46) (by conv=>lhs;reduce) PG
def PE:=oA (sp 4 C46) (by conv=>lhs;reduce) PF
def PC:=oA (sp 3 C46) (by conv=>lhs;reduce) PE
def PB:=oA (sp 2 C46) (by conv=>lhs;reduce) PC
def PA:=oA (sp 1 C46) (by conv=>lhs;reduce) PB
def c46:=oA (sp 0 C46) (by conv=>lhs;reduce) PA
def C47:=oo (cd 47) (by conv=>lhs;reduce)
def uw:=oo (lb 0 C47) (by conv=>lhs;reduce)
def c47:=oA (λa=>lm [a] C47) (by conv=>lhs;reduce) uw
def c37:=oo (cd 37) (by conv=>lhs;reduce)
def c95:=oo (cd 95) (by conv=>lhs;reduce)
def Af:ah:=(sR [oP Fh (lt3 wE (kI 3 8))] (.seq (.cond DO .skip (.exit 0)) (.seq (.block 1 (sR [oM Fi wE,oM ve DP] (.seq (.sm [oM Fj lM,oP Fk (.ixA 8 1 jM DQ),⟨0,Fl,none,1,(.cJ DS)⟩,oM Fm lM,oP Fo (.ixA 8 1 jb DU),⟨0,Fp,none,1,(.cJ DV)⟩,oP Fq (.KU true DT Bx)]) (.cond DW (.sO [oM B5 gu,oM Fs lM,oM Ft lM,oP Fu (.ixA 8 1 jM DY),oL d100 DZ,oP d101 (.build [(.int 3 0),(.str 0 0)] [⟨0,⟨1,DX⟩⟩,⟨1,⟨1,IZ⟩⟩]),oP d102 (.iF false 1 [(.int 3 0),(.str 0 0)] [⟨0,⟨2,I0⟩⟩]),oP d103 (.app false 2 zf I3),oM oT I4]) .skip)))) (.sO [oP d104 (ad3 wE (kI 3 1)),oM B4 MN]))))
def Q1:ah:=.ret
def Q0:ah:=(sR [oM d105 gu,oM gZ a105,oM jg (kI 3 0)] Q1)
def P9:ah:=(.seq (sR [oM EV fF,oN EW DD,oF EX 9 DE,oL EY DF,oM EZ ja,oP Fa (.xR 11 DG DH),oF Fb 0 DI,oP Fc (.bR 8 DJ),oP oU (.ir [(.str 0 0),(.str 0 0),(.str 0 0),(.str 0 0),(.str 0 0),(.str 0 0),(.str 0 0),(.str 0 0)]),oP none (.ei 8 jM DK)] (sR [oP Fe (.bR 8 jM),oP Ff (.bR 8 jb),oP Fg (.gf [2,2,2,2,2,2,2,2] true DL DM)] (.cond DN (sR [oM B4 (kI 3 0)] (.block 0 (.loop Af))) .skip))) Q0)
def LX:ah:=(sR [oP oT (.kN (.c .az))] P9)
def LW:ah:=(.seq (sR [oM zE ja,oP BW (gt3 rV (kI 3 0))] (.cond Br (.sO [oM BX fF,oN BY Bs,oF BZ 9 Bt,oL EP Bu,oM ER ja,oP B3 (sb3 DA (kI 3 1)),oP ES (.xR 11 Bv y9),oF ET 0 DB,oP EU (.bR 8 Bw),oP none (.ei 8 jb DC)]) .skip)) LX)
def P8:ah:=(sR [oM xm fF,oN xp wA,oF xq 8 wB,oL zC wC,oC zD 318 [uZ],oP lP (.ir [(.str 0 0),(.str 0 0),(.str 0 0),(.str 0 0),(.str 0 0),(.str 0 0),(.str 0 0),(.str 0 0)]),oP none (.ei 8 jb wD)] LW)
def LV:ah:=(.seq (sR [oM tM ja,oP xe (lt3 kz (kI 3 0)),oM xf og,⟨0,vh,(gF .i0 .i1 .i6),0,(.kN ja)⟩,⟨0,zq,(gF .i0 .i1 .i6),0,(.kN fF)⟩,⟨0,xg,(gF .i0 .i1 .i6),0,(.Kc rU)⟩,⟨0,zy,(gF .i0 .i1 .i6),0,(.fZ 9 wo)⟩,⟨0,xh,(gF .i0 .i1 .i6),0,(.cJ wq)⟩,⟨0,xi,(gF .i0 .i1 .i6),0,(.fD wu)⟩,⟨0,xj,(gF .i0 .i1 .i6),0,(.cmp 3 (.ge 9223372036854775808 18446744073709551616) rT wv)⟩,oP xk (.pick qX (.c (.bool true)) wy)] (.cond wz (sR [oP gZ (.kN (.c .az)),oM jg (kI 3 5)] .ret) .skip)) P8)
def LU:ah:=(.seq (sR [oM xb fF,oC xd 192 [l7]] (.cond tf (sR [oP gZ (.kN (.c .az)),oM jg (kI 3 1)] .ret) .skip)) LV)
def c93:ah:=(sR [oP gZ (.kN (.c .az)),oM jg (kI 3 0)] LU)
def c53:=oo (cd 53) (by conv=>lhs;reduce)
def wN:ah:=(sR [oP Fs (lt3 zf DW)] (.seq (.cond DX .skip (.exit 0)) (.seq (.block 1 (sR [oP Ft (.xR 2 Bx zf),oP Fu (.bR 2 DY),oP xb (.ir [(.int 3 0),(.str 0 0)]),oP none (.ei 2 l7 DZ)] (.seq (sR [oM d100 fF,oF d101 0 l7,oL d102 I0,oF d103 1 l7,oL d104 I4,oC d105 108 [IZ,I3,MN],oP d106 (.J3 a105),oM d107 O9,⟨0,d110,(gF .i1 .i0 .i7),0,(.fZ 0 l7)⟩,⟨0,d111,(gF .i1 .i0 .i7),0,(.cJ Pa)⟩,⟨0,d112,(gF .i1 .i0 .i7),0,(.kN jM)⟩,⟨0,d113,(gF .i1 .i0 .i7),0,(.cmp 3 (.le 9223372036854775808 18446744073709551616) Ux Uy)⟩,oP d114 (.pick a107 (.c (.bool true)) Uz)] (.cond UA (sR [oM lP (kI 3 2)] .ret) .skip)) (.sO [oF d115 0 l7,oL d116 UB,oM oU a116])))) (.sO [oP d117 (ad3 zf (kI 3 1)),oM B5 a117]))))
def tz:ah:=.ret
def tu:ah:=(sR [oM lP (kI 3 0)] tz)
def tp:ah:=(.seq (sR [oF d120 4 eF,oL d121 UC,oF d122 5 eF,oL d123 UE,oP d124 (eq3 UD UF),oM d125 a124,⟨0,d126,(gT .i1 .i2 .i5),0,(.kN fF)⟩,⟨0,d127,(gT .i1 .i2 .i5),0,(.Kc ab4)⟩,⟨0,d130,(gT .i1 .i2 .i5),0,(.fZ 0 a127)⟩,⟨0,d131,(gT .i1 .i2 .i5),0,(.fZ 1 a130)⟩,⟨0,d132,(gT .i1 .i2 .i5),0,(.cJ a131)⟩,⟨0,d133,(gT .i1 .i2 .i5),0,(.fD afx)⟩,⟨0,d134,(gT .i1 .i2 .i5),0,(.cmp 3 (.ge 9223372036854775808 18446744073709551616) afy (kI 3 20))⟩,oP d135 (.pick ab3 afz (.c (.bool false)))] (.cond afA (sR [oM lP (kI 3 3)] .ret) .skip)) tu)
def Jh:ah:=(.seq (sR [oM Fp Dz,oP Fq (.fD Bx),oM B5 (kI 3 0)] (.block 0 (.loop wN))) tp)
def Jg:ah:=(sR [oM oU (kI 3 18446744073709551615)] Jh)
def Jf:ah:=(.seq (.seq (.sm [oF xf 0 eF,⟨0,vh,none,1,(.bR 2 qX)⟩,⟨0,zq,none,1,(.bR 2 gu)⟩,oP xg (.gf [1,1] true rT rU),oM zy wo,⟨0,xh,(gF .i0 .i2 .i2),0,(.fZ 2 eF)⟩,⟨0,xi,(gF .i0 .i2 .i2),1,(.bR 2 wu)⟩,⟨0,xj,(gF .i0 .i2 .i2),1,(.bR 2 gu)⟩,⟨0,xk,(gF .i0 .i2 .i2),0,(.call 404 [wv,wy])⟩,⟨0,xm,(gF .i0 .i2 .i2),0,(.J3 wz)⟩,oP xp (.pick wq (.c (.bool true)) wA),oM xq wB,⟨0,zC,(gF .i0 .i3 .i1),0,(.fZ 5 eF)⟩,⟨0,zD,(gF .i0 .i3 .i1),0,(.cJ uZ)⟩,⟨0,zE,(gF .i0 .i3 .i1),0,(lt3 wD (kI 3 0))⟩,oP BW (.pick wC (.c (.bool true)) rV),oM BX Br,⟨0,BY,(gF .i0 .i3 .i6),0,(.fZ 5 eF)⟩,⟨0,BZ,(gF .i0 .i3 .i6),1,(.cJ Bt)⟩,⟨0,EP,(gF .i0 .i3 .i6),0,(.kN fF)⟩,⟨0,ER,(gF .i0 .i3 .i6),1,(.call 144 [Bv])⟩,⟨0,B3,(gF .i0 .i3 .i6),0,(gt3 Bu DA)⟩,oP ES (.pick Bs (.c (.bool true)) y9),oM ET DB,⟨0,EU,(gF .i0 .i4 .i5),0,(.fZ 4 eF)⟩,⟨0,EV,(gF .i0 .i4 .i5),0,(.cJ DC)⟩,⟨0,EW,(gF .i0 .i4 .i5),0,(lt3 DD (kI 3 0))⟩,oP EX (.pick Bw (.c (.bool true)) DE),oM EY DF,⟨0,EZ,(gF .i0 .i5 .i2),0,(.fZ 4 eF)⟩,⟨0,Fa,(gF .i0 .i5 .i2),1,(.cJ DH)⟩,⟨0,Fb,(gF .i0 .i5 .i2),0,(.fZ 5 eF)⟩,⟨0,Fc,(gF .i0 .i5 .i2),1,(.cJ DJ)⟩,⟨0,Fe,(gF .i0 .i5 .i2),0,(gt3 DI DK)⟩,oP Ff (.pick DG (.c (.bool true)) DL),oM Fg DM,⟨0,B4,(gF .i0 .i6 .i1),0,(.fZ 4 eF)⟩,⟨0,Fh,(gF .i0 .i6 .i1),1,(.cJ wE)⟩,⟨0,Fi,(gF .i0 .i6 .i1),0,(eq3 DO (kI 3 0))⟩,⟨0,Fj,(gF .i0 .i6 .i1),0,(.fZ 5 eF)⟩,⟨0,Fk,(gF .i0 .i6 .i1),1,(.cJ DQ)⟩,⟨0,Fl,(gF .i0 .i6 .i1),0,(eq3 DS (kI 3 0))⟩,⟨0,Fm,(gF .i0 .i6 .i1),0,(.eqv 0 true DP DT)⟩,oP Fo (.pick DN (.c (.bool true)) DU)]) (.cond DV (sR [oM lP (kI 3 2)] .ret) .skip)) Jg)
def Pt:ah:=(sR [oM xd fF,oC tM 306 [tf],oP xe (.RO 0 2 kz),oP oT (.ir [(.int 7 0),(.int 7 0)]),oP none (.ei 2 gu og)] Jf)
def acv:ah:=(sR [oP gZ (.box ja),oM lP (kI 3 0)] Pt)
def C55:=oo (cd 55) (by conv=>lhs;reduce)
def En:=oo (lb 0 C55) (by conv=>lhs;reduce)
def Aa:=oo (lb 1 C55) (by conv=>lhs;reduce)
def Ab:=oo (lb 2 C55) (by conv=>lhs;reduce)
def PN:ah:=.ret
def PM:=oA (sp 11 C55) (by conv=>lhs;reduce) PN
def PL:=oB (λa x=>rp 10 [a] C55 x) (by conv=>lhs;reduce) Ab PM
def PY:=oA (sp 9 C55) (by conv=>lhs;reduce) PL
def PX:=oA (sp 8 C55) (by conv=>lhs;reduce) PY
def PW:=oB (λa x=>rp 7 [a] C55 x) (by conv=>lhs;reduce) Aa PX
def PV:=oA (sp 6 C55) (by conv=>lhs;reduce) PW
def PU:=oA (sp 5 C55) (by conv=>lhs;reduce) PV
def PT:=oA (sp 4 C55) (by conv=>lhs;reduce) PU
def PS:=oA (sp 3 C55) (by conv=>lhs;reduce) PT
def PO:=oB (λa x=>rp 2 [a] C55 x) (by conv=>lhs;reduce) En PS
def PK:=oA (sp 1 C55) (by conv=>lhs;reduce) PO
def c55:=oA (sp 0 C55) (by conv=>lhs;reduce) PK
def ZZ:=oo (cd 153) (by conv=>lhs;reduce)
def afD:=oo (cd 143) (by conv=>lhs;reduce)
def C56:=oo (cd 56) (by conv=>lhs;reduce)
def LI:=oo (lb 0 C56) (by conv=>lhs;reduce)
def Eo:=oo (lb 1 C56) (by conv=>lhs;reduce)
def BL:ah:=.ret
def LO:=oA (sp 9 C56) (by conv=>lhs;reduce) BL
def LN:=oA (sp 8 C56) (by conv=>lhs;reduce) LO
def LM:=oA (sp 7 C56) (by conv=>lhs;reduce) LN
def LK:=oB (λa x=>rp 6 [a] C56 x) (by conv=>lhs;reduce) Eo LM
def LJ:=oA (sp 5 C56) (by conv=>lhs;reduce) LK
def Et:=oA (sp 4 C56) (by conv=>lhs;reduce) LJ
def Es:=oA (sp 3 C56) (by conv=>lhs;reduce) Et
def Er:=oB (λa x=>rp 2 [a] C56 x) (by conv=>lhs;reduce) LI Es
def Ep:=oA (sp 1 C56) (by conv=>lhs;reduce) Er
def c56:=oA (sp 0 C56) (by conv=>lhs;reduce) Ep
def c63:=oo (cd 63) (by conv=>lhs;reduce)
def Z0:=oo (cd 154) (by conv=>lhs;reduce)
def UU:=oo (cd 161) (by conv=>lhs;reduce)
def Z4:=oo (cd 205) (by conv=>lhs;reduce)
def acL:=oo (cd 204) (by conv=>lhs;reduce)
def c38:=oo (cd 38) (by conv=>lhs;reduce)
def c39:=oo (cd 39) (by conv=>lhs;reduce)
def C40:=oo (cd 40) (by conv=>lhs;reduce)
def El:=oo (lb 0 C40) (by conv=>lhs;reduce)
def XX:=oA (λa=>lm [a] C40) (by conv=>lhs;reduce) El
def c96:=oo (cd 96) (by conv=>lhs;reduce)
def C86:=oo (cd 86) (by conv=>lhs;reduce)
def Ad:=oo (lb 0 C86) (by conv=>lhs;reduce)
def c86:=oA (λa=>lm [a] C86) (by conv=>lhs;reduce) Ad
def c54:=oo (cd 54) (by conv=>lhs;reduce)
def c66:=oo (cd 66) (by conv=>lhs;reduce)
def C88:=oo (cd 88) (by conv=>lhs;reduce)
def Ez:ah:=.ret
def Ey:=oA (sp 5 C88) (by conv=>lhs;reduce) Ez
def Ex:=oA (sp 4 C88) (by conv=>lhs;reduce) Ey
def Ew:=oA (sp 3 C88) (by conv=>lhs;reduce) Ex
def wT:=oA (sp 2 C88) (by conv=>lhs;reduce) Ew
def wS:=oA (sp 1 C88) (by conv=>lhs;reduce) wT
def Z9:=oA (sp 0 C88) (by conv=>lhs;reduce) wS
def c89:=oo (cd 89) (by conv=>lhs;reduce)
def c25:=oo (cd 25) (by conv=>lhs;reduce)
def C91:=oo (cd 91) (by conv=>lhs;reduce)
def Ae:=oo (lb 0 C91) (by conv=>lhs;reduce)
def c91:=oA (λa=>lm [a] C91) (by conv=>lhs;reduce) Ae
def c73:=oo (cd 73) (by conv=>lhs;reduce)
def C74:=oo (cd 74) (by conv=>lhs;reduce)
def LP:=oo (lb 0 C74) (by conv=>lhs;reduce)
def c74:=oA (λa=>lm [a] C74) (by conv=>lhs;reduce) LP
def c75:=oo (cd 75) (by conv=>lhs;reduce)
def C76:=oo (cd 76) (by conv=>lhs;reduce)
def P0:ah:=.ret
def PZ:=oA (sp 4 C76) (by conv=>lhs;reduce) P0
def fj:=oA (sp 3 C76) (by conv=>lhs;reduce) PZ
def X1:=oA (sp 2 C76) (by conv=>lhs;reduce) fj
def X0:=oA (sp 1 C76) (by conv=>lhs;reduce) X1
def c76:=oA (sp 0 C76) (by conv=>lhs;reduce) X0
def c77:ah:=(sR [oM tL (kI 3 0)] (sR [oF sj 0 fF,oP gZ (.bR 2 iC),oP jg (.bR 2 ja),oP lP (.gf [1,1] false eF l4),oC oT 156 [jb,(kI 3 9)],oM tL gu] .ret))
def c78:=oo (cd 78) (by conv=>lhs;reduce)
def c79:=oo (cd 79) (by conv=>lhs;reduce)
def c80:=oo (cd 80) (by conv=>lhs;reduce)
def c81:=oo (cd 81) (by conv=>lhs;reduce)
def Z3:=oo (cd 202) (by conv=>lhs;reduce)
def UW:=oo (cd 162) (by conv=>lhs;reduce)
def UX:=oo (cd 163) (by conv=>lhs;reduce)
def c97:=oo (cd 97) (by conv=>lhs;reduce)
def acb:=oo (cd 104) (by conv=>lhs;reduce)
def US:=oo (cd 117) (by conv=>lhs;reduce)
def ace:=oo (cd 118) (by conv=>lhs;reduce)
def C120:=oo (cd 120) (by conv=>lhs;reduce)
def wL:=oo (lb 0 C120) (by conv=>lhs;reduce)
def acf:=oA (λa=>lm [a] C120) (by conv=>lhs;reduce) wL
def C103:=oo (cd 103) (by conv=>lhs;reduce)
def lO:=oo (lb 0 C103) (by conv=>lhs;reduce)
def ZV:=oA (λa=>lm [a] C103) (by conv=>lhs;reduce) lO
def C98:=oo (cd 98) (by conv=>lhs;reduce)
def EA:=oo (lb 0 C98) (by conv=>lhs;reduce)
def c98:=oA (λa=>lm [a] C98) (by conv=>lhs;reduce) EA
def c99:=oo (cd 99) (by conv=>lhs;reduce)
def acg:=oo (cd 121) (by conv=>lhs;reduce)
def ach:=oo (cd 122) (by conv=>lhs;reduce)
def C123:=oo (cd 123) (by conv=>lhs;reduce)
def BC:=oo (lb 0 C123) (by conv=>lhs;reduce)
def aci:=oA (λa=>lm [a] C123) (by conv=>lhs;reduce) BC
def acj:=oo (cd 124) (by conv=>lhs;reduce)
def ack:=oo (cd 125) (by conv=>lhs;reduce)
def C126:=oo (cd 126) (by conv=>lhs;reduce)
def BD:=oo (lb 0 C126) (by conv=>lhs;reduce)
def acm:=oA (λa=>lm [a] C126) (by conv=>lhs;reduce) BD
def C127:=oo (cd 127) (by conv=>lhs;reduce)
def BE:=oo (lb 0 C127) (by conv=>lhs;reduce)
def acn:=oA (λa=>lm [a] C127) (by conv=>lhs;reduce) BE
def ZW:=oo (cd 128) (by conv=>lhs;reduce)
def wJ:ah:=(sR [oP ES (lt3 y9 DA)] (.seq (.cond DB .skip (.exit 0)) (.seq (.block 1 (sR [oP ET (.xR 4 Bv y9),oP EU (.bR 4 Bw),oP oT (.ir [(.int 7 0),(.int 7 0),.az,(.bool false)]),oP none (.ei 4 gu DC)] (.sm [oM EV l4,oF EW 0 gu,⟨0,EX,none,1,(.bR 2 DE)⟩,⟨0,EY,none,1,(.call 340 [DD,DF])⟩,oF EZ 3 gu,⟨0,Fa,none,1,(.cJ DH)⟩,⟨0,Fb,none,1,(.call 342 [DI])⟩,⟨0,Fc,none,1,(.iF false 1 [(.int 3 0)] [⟨0,⟨1,DJ⟩⟩])⟩,⟨0,Fe,none,1,(.call 338 [DG,DK])⟩,oF Ff 2 gu,⟨0,Fg,none,1,(.cJ DM)⟩,oC B4 338 [DL,DN],oM jg wE]))) (.sO [oP Fh (ad3 y9 (kI 3 1)),oM B3 DO]))))
def UR:ah:=(sR [oP afT (.box fF),oP tL (.kN (.c (.str 0 0))),oM sj (kI 3 0)] (.seq (sR [oP xb (.bR 9 ja),oF xd 0 ja,oL tM tf,oP xe (.fD kz),oC xf 94 [l7,og,(kI 3 1024)],oM gZ qX] (sR [oM vh eF,oP zq (ne3 rT (kI 3 0))] (.cond rU (sR [oM xg eF,oP tL (.kN (.c (.str 0 0))),oM sj wo] .ret) .skip))) (.seq (.sm [oF zy 0 ja,⟨0,xh,none,1,(.cJ wq)⟩,⟨0,xi,none,1,(.fD wu)⟩,⟨0,xj,none,1,(.iF false 1 [(.int 3 0)] [⟨0,⟨1,wv⟩⟩])⟩,⟨0,xk,none,1,(.call 338 [(.c (.str 0 0)),wy])⟩,oF xm 0 ja,⟨0,xp,none,1,(.cJ wA)⟩,oC xq 338 [wz,wB],oM jg wC]) (sR [oM zC l4,oF zD 1 ja,oL zE wD,oP BW (.fD rV),oP BX (.iF false 1 [(.int 3 0)] [⟨0,⟨1,Br⟩⟩]),oC BY 338 [uZ,Bs],oM jg Bt] (.seq (sR [oF BZ 1 ja,oL EP Bu,oP ER (.fD Bv),oM B3 (kI 3 0)] (.block 0 (.loop wJ))) (sR [oF Fi 2 ja,oP Fj (.bR 7 DP),oP oU (.ir [(.int 7 0),(.int 7 0),(.int 7 0),(.int 7 0),(.int 3 0),(.int 3 0),.az]),oP none (.ei 7 jM DQ)] (sR [oF Fk 2 jM,oP Fl (.bR 2 DS),oP Fm (.build [(.int 7 0),(.int 7 0)] []),oP Fo (.gf [1,1] true DT DU),oM ve DV] (sR [oM Fp l4,oM Fq lM,oC B5 342 [DW],oP Fs (.iF false 1 [(.int 3 0)] [⟨0,⟨1,zf⟩⟩]),oC Ft 338 [Bx,DX],oM jg DY] (.seq (sR [oM Fu lM] (.cond DZ (.sm [oM d100 l4,oF d101 0 jM,⟨0,d102,none,1,(.bR 2 I0)⟩,⟨0,d103,none,1,(.call 340 [IZ,I3])⟩,oF d104 2 jM,⟨0,d105,none,1,(.bR 2 MN)⟩,⟨0,d106,none,1,(.call 340 [I4,a105])⟩,oF d107 4 jM,⟨0,d110,none,1,(.cJ a107)⟩,oF d111 5 jM,⟨0,d112,none,1,(.cJ Ux)⟩,⟨0,d113,none,1,(.iF false 2 [(.int 3 0),(.int 3 0)] [⟨0,⟨1,Pa⟩⟩,⟨1,⟨1,Uy⟩⟩])⟩,⟨0,d114,none,1,(.call 338 [O9,Uz])⟩,oF d115 6 jM,⟨0,d116,none,1,(.cJ UB)⟩,oC d117 338 [UA,a116],oM jg a117]) .skip)) (.seq (sR [oM d120 l4,oC d121 344 [UC],oP d122 (gt3 UD (kI 3 48))] (.cond UE (sR [oP tL (.kN (.c (.str 0 0))),oM sj (kI 3 3)] .ret) .skip)) (sR [oM d123 l4,oM tL UF,oM sj (kI 3 0)] .ret)))))))))))
def C129:=oo (cd 129) (by conv=>lhs;reduce)
def mY:=oo (lb 0 C129) (by conv=>lhs;reduce)
def MX:=oA (λa=>lm [a] C129) (by conv=>lhs;reduce) mY
def aco:=oo (cd 130) (by conv=>lhs;reduce)
def sg:ah:=(sR [oP gZ (.box fF),oP jg (.box ja),oM oU (kI 3 0)] (.seq (sR [oF ve 2 eF,oP xb (.bR 2 lM),oP xd (.build [(.int 7 0),(.int 7 0)] []),oP tM (.gf [1,1] false l7 tf)] (.cond kz (.seq (sR [oF xe 0 eF,oP xf (.bR 2 og),oF vh 2 eF,oP zq (.bR 2 rT),oP xg (.gf [1,1] true qX rU),oM zy wo,⟨0,xh,(gF .i0 .i2 .i2),0,(.fZ 4 eF)⟩,⟨0,xi,(gF .i0 .i2 .i2),0,(.cJ wu)⟩,⟨0,xj,(gF .i0 .i2 .i2),0,(ne3 wv (kI 3 0))⟩,oP xk (.pick wq (.c (.bool true)) wy),oM xm wz,⟨0,xp,(gF .i0 .i2 .i7),0,(.fZ 5 eF)⟩,⟨0,xq,(gF .i0 .i2 .i7),0,(.cJ wB)⟩,⟨0,zC,(gF .i0 .i2 .i7),0,(ne3 wC (kI 3 0))⟩,oP zD (.pick wA (.c (.bool true)) uZ),oM zE wD,⟨0,BW,(gF .i0 .i3 .i4),0,(.fZ 6 eF)⟩,⟨0,BX,(gF .i0 .i3 .i4),0,(.cJ Br)⟩,⟨0,BY,(gF .i0 .i3 .i4),0,(.fD Bs)⟩,⟨0,BZ,(gF .i0 .i3 .i4),0,(ne3 Bt (kI 3 0))⟩,oP EP (.pick rV (.c (.bool true)) Bu)] (.cond Bv (sR [oM oU (kI 3 2)] .ret) .skip)) (sR [oM oU (kI 3 0)] .ret)) .skip)) (.seq (sR [oF ER 0 eF,oP B3 (.bR 2 DA),oP ES (.bR 2 l4),oP ET (.gf [1,1] true y9 DB),oM EU Bw,⟨0,EV,(gF .i0 .i4 .i6),0,(.fZ 2 eF)⟩,⟨0,EW,(gF .i0 .i4 .i6),0,(.bR 2 DD)⟩,⟨0,EX,(gF .i0 .i4 .i6),0,(.bR 2 l4)⟩,⟨0,EY,(gF .i0 .i4 .i6),0,(.call 260 [DE,DF])⟩,⟨0,EZ,(gF .i0 .i4 .i6),0,(.cmp 3 (.le 9223372036854775808 18446744073709551616) DG (kI 3 0))⟩,oP Fa (.pick DC (.c (.bool true)) DH),oM Fb DI,⟨0,Fc,(gF .i0 .i5 .i5),0,(.fZ 4 eF)⟩,⟨0,Fe,(gF .i0 .i5 .i5),0,(.cJ DK)⟩,⟨0,Ff,(gF .i0 .i5 .i5),0,(lt3 DL (kI 3 1))⟩,oP Fg (.pick DJ (.c (.bool true)) DM),oM B4 DN,⟨0,Fh,(gF .i0 .i6 .i2),0,(.fZ 5 eF)⟩,⟨0,Fi,(gF .i0 .i6 .i2),0,(.cJ DO)⟩,⟨0,Fj,(gF .i0 .i6 .i2),0,(.fZ 4 eF)⟩,⟨0,Fk,(gF .i0 .i6 .i2),0,(.cJ DQ)⟩,⟨0,Fl,(gF .i0 .i6 .i2),0,(.cmp 3 (.le 9223372036854775808 18446744073709551616) DP DS)⟩,oP Fm (.pick wE (.c (.bool true)) DT),oM Fo DU,⟨0,Fp,(gF .i0 .i7 .i1),0,(.fZ 5 eF)⟩,⟨0,Fq,(gF .i0 .i7 .i1),0,(.cJ Bx)⟩,⟨0,B5,(gF .i0 .i7 .i1),0,(.kN Dz)⟩,⟨0,Fs,(gF .i0 .i7 .i1),0,(gt3 DW zf)⟩,oP Ft (.pick DV (.c (.bool true)) DX)] (.cond DY (sR [oM oU (kI 3 2)] .ret) .skip)) (sR [oF Fu 6 eF,oL d100 DZ,oM d101 Dz,oM d102 iC,oC d103 258 [IZ,I0,I3],oM oU I4] .ret))))
def acx:=oo (cd 164) (by conv=>lhs;reduce)
def ZX:=oo (cd 139) (by conv=>lhs;reduce)
noncomputable def lr:RC × RC:=abb ((Tryz.prog.funcs[140]?).bind (jz Tryz.prog 140))
noncomputable def acp:ah:=(sR [oP sj (.box ja),oP gZ (.ir [.az]),oP jg (.ir [(.int 3 0)])] (.seq (sR [oL oU iC,oP ve (lt3 jM (kI 3 0)),oM xb lM,⟨0,xd,(gF .i0 .i1 .i2),0,(.cJ iC)⟩,⟨0,tM,(gF .i0 .i1 .i2),0,(gt3 tf (kI 3 1024))⟩,oP xe (.pick l7 (.c (.bool true)) kz)] (.cond og (sR [oP none (.eh eF (.c .az)),oP none (.eh l4 (kI 3 2))] .ret) .skip)) (sR [oL xf iC,oP vh (.mkSlice false [(.int 3 0)] qX qX),oP lP (.ir [.az]),oP none (.eh jb rT)] (.seq (sR [oM zq fF,oC xg 394 [rU]] (.block 0 (.kT wo [s022] lr.1 lr.2))) (sR [oL BZ jb,oP none (.eh eF Bu),oP none (.eh l4 (kI 3 0))] .ret)))))
def XA:ah:=(.sO [oM oT wq])
def XB:ah:=(.block 1 (.seq (sR [oM xh gu,oP xi (lt3 wu (kI 3 193)),oM xj wv,⟨0,xk,(gF .i0 .i2 .i5),0,(.kN gu)⟩,⟨0,xm,(gF .i0 .i2 .i5),0,(.cJ iC)⟩,⟨0,xp,(gF .i0 .i2 .i5),0,(.cmp 3 (.ge 9223372036854775808 18446744073709551616) wz wA)⟩,oP xq (.pick wy (.c (.bool true)) wB)] (.cond wC (sR [oP none (.eh eF (.c .az)),oP none (.eh l4 (kI 3 2))] .ret) .skip)) (.sO [oL zC jb,oM zD gu,oP zE (.xR 1 uZ wD),oL BW rV,oP BX (ad3 Br (kI 3 1)),oP BY (.xR 1 uZ wD),oP none (.eh Bt Bs)])))
theorem Zg:aP Tryz.prog lr.1=XA/\aP Tryz.prog lr.2=XB:=by constructor<;>kernel_rfl
noncomputable def eB:RC × RC:=abb ((Tryz.prog.funcs[141]?).bind (jz Tryz.prog 141))
noncomputable def UT:ah:=(sR [oP sj (.box ja),oP gZ (.kN (.c .az)),oM jg (kI 3 0)] (.seq (sR [oL oU iC,oP ve (lt3 jM (kI 3 0))] (.cond lM (sR [oP gZ (.kN (.c .az)),oM jg (kI 3 2)] .ret) .skip)) (.seq (.seq (.sm [⟨0,xb,none,1,(.cJ iC)⟩,oM xd fF,⟨0,tM,none,1,(.call 396 [tf])⟩,oP xe (gt3 l7 kz)]) (.cond og (sR [oP gZ (.kN (.c .az)),oM jg (kI 3 7)] .ret) .skip)) (sR [oP lP (.ir [.az])] (.seq (sR [oM xf fF,oC vh 398 [qX]] (.block 0 (.kT rT [s020] eB.1 eB.2))) (sR [oL xq jb,oM gZ wC,oM jg (kI 3 0)] .ret))))))
def Pr:ah:=(.sO [oM oT rU])
def Ps:ah:=(.block 1 (.seq (sR [oL xg jb,oP zy (.fD wo),oL xh iC,oP xi (eq3 wq wu)] (.cond wv (.exit 0) .skip)) (.sO [oL xj jb,oM xk gu,oP xm (.iF false 1 [(.int 3 0)] [⟨0,⟨1,wz⟩⟩]),oP xp (.app false 1 wy wA),oP none (.eh jb wB)])))
theorem Mx:aP Tryz.prog eB.1=Pr/\aP Tryz.prog eB.2=Ps:=by constructor<;>kernel_rfl
def C142:=oo (cd 142) (by conv=>lhs;reduce)
def wM:=oo (lb 0 C142) (by conv=>lhs;reduce)
def acq:=oA (λa=>lm [a] C142) (by conv=>lhs;reduce) wM
def C190:=oo (cd 190) (by conv=>lhs;reduce)
def Ji:=oo (lb 0 C190) (by conv=>lhs;reduce)
def acH:=oA (λa=>lm [a] C190) (by conv=>lhs;reduce) Ji
def U2:=oo (cd 191) (by conv=>lhs;reduce)
def aca:=oo (cd 100) (by conv=>lhs;reduce)
def C105:=oo (cd 105) (by conv=>lhs;reduce)
def BB:=oo (lb 0 C105) (by conv=>lhs;reduce)
def wK:=oo (lb 1 C105) (by conv=>lhs;reduce)
def acd:=oB (λa b=>lm [a,b] C105) (by conv=>lhs;reduce) BB wK
def MV:=oo (cd 106) (by conv=>lhs;reduce)
def C12:=oo (cd 12) (by conv=>lhs;reduce)
def LF:=oo (lb 0 C12) (by conv=>lhs;reduce)
def c12:=oA (λa=>lm [a] C12) (by conv=>lhs;reduce) LF
def ZY:=oo (cd 149) (by conv=>lhs;reduce)
def C150:=oo (cd 150) (by conv=>lhs;reduce)
def BG:=oo (lb 0 C150) (by conv=>lhs;reduce)
def acs:=oA (λa=>lm [a] C150) (by conv=>lhs;reduce) BG
def acr:=oo (cd 148) (by conv=>lhs;reduce)
def C151:=oo (cd 151) (by conv=>lhs;reduce)
def BH:=oo (lb 0 C151) (by conv=>lhs;reduce)
def acu:=oA (λa=>lm [a] C151) (by conv=>lhs;reduce) BH
def C206:=oo (cd 206) (by conv=>lhs;reduce)
def wQ:=oo (lb 0 C206) (by conv=>lhs;reduce)
def Z5:=oA (λa=>lm [a] C206) (by conv=>lhs;reduce) wQ
def U3:ah:=(sR [oP tL (.box fF),oP sj (.kN (.c (.bool false)))] (sR [oF gZ 0 Dz,oP jg (.bR 2 eF),oP lP (.bR 2 ja),oP oT (.gf [1,1] false l4 jb),oM sj gu] .ret))
def C208:=oo (cd 208) (by conv=>lhs;reduce)
def wR:=oo (lb 0 C208) (by conv=>lhs;reduce)
def Z6:=oA (λa=>lm [a] C208) (by conv=>lhs;reduce) wR
def Z7:ah:=(sR [oP tL (.box fF),oP sj (.kN (.c (.bool false)))] (sR [oF gZ 8 Dz,oP jg (.bR 2 eF),oP lP (.bR 2 ja),oP oT (.gf [1,1] false l4 jb),oM sj gu] .ret))
def acD:=oo (cd 174) (by conv=>lhs;reduce)
def U0:=oo (cd 177) (by conv=>lhs;reduce)
def acC:=oo (cd 172) (by conv=>lhs;reduce)
def acF:=oo (cd 187) (by conv=>lhs;reduce)
def acG:=oo (cd 188) (by conv=>lhs;reduce)
def Ee:=oo (cd 165) (by conv=>lhs;reduce)
def UY:=oo (cd 166) (by conv=>lhs;reduce)
def C167:=oo (cd 167) (by conv=>lhs;reduce)
def qZ:=oo (lb 0 C167) (by conv=>lhs;reduce)
def UZ:=oA (λa=>lm [a] C167) (by conv=>lhs;reduce) qZ
def Z2:=oo (cd 189) (by conv=>lhs;reduce)
def C169:=oo (cd 169) (by conv=>lhs;reduce)
def BI:=oo (lb 0 C169) (by conv=>lhs;reduce)
def acz:=oA (λa=>lm [a] C169) (by conv=>lhs;reduce) BI
def acA:=oo (cd 170) (by conv=>lhs;reduce)
def acB:=oo (cd 171) (by conv=>lhs;reduce)
def afG:=oo (cd 210) (by conv=>lhs;reduce)
def acI:=oo (cd 197) (by conv=>lhs;reduce)
noncomputable def oq:RC × RC:=abb ((Tryz.prog.funcs[198]?).bind (jz Tryz.prog 198))
noncomputable def acJ:ah:=(sR [oM tL (kI 3 0)] (sR [oP sj (.ir [(.int 3 0)]),oP none (.eh iC (kI 3 0))] (.seq (sR [oM gZ fF,oC jg 398 [eF]] (.block 0 (.kT l4 [s006] oq.1 oq.2))) (sR [oL ve iC,oM tL lM] .ret))))
def XC:ah:=.skip
def XD:ah:=(.block 1 (.sO [oL oT iC,oP oU (ad3 gu (kI 3 1)),oP none (.eh iC jM)]))
theorem Zh:aP Tryz.prog oq.1=XC/\aP Tryz.prog oq.2=XD:=by constructor<;>kernel_rfl
def acK:=oo (cd 199) (by conv=>lhs;reduce)
def afF:=oo (cd 200) (by conv=>lhs;reduce)
def acO:=oo (cd 224) (by conv=>lhs;reduce)
def C168:=oo (cd 168) (by conv=>lhs;reduce)
def wP:=oo (lb 0 C168) (by conv=>lhs;reduce)
def acy:=oA (λa=>lm [a] C168) (by conv=>lhs;reduce) wP
def acE:=oo (cd 175) (by conv=>lhs;reduce)
def Pu:=oo (cd 176) (by conv=>lhs;reduce)
def U1:=oo (cd 178) (by conv=>lhs;reduce)
def acN:=oo (cd 214) (by conv=>lhs;reduce)
def Pv:=oo (cd 211) (by conv=>lhs;reduce)
def tA:ah:=(sR [oP zq (lt3 rT qX)] (.seq (.cond rU .skip (.exit 2)) (.seq (.block 3 (sR [oP xg (.xR 1 og rT),oL zy wo,oM lP wq] (sR [oM xh jb,oP xi (ne3 wu (kI 3 0)),oM xj wv,⟨0,xk,(gT .i0 .i2 .i5),0,(.kN fF)⟩,⟨0,xm,(gT .i0 .i2 .i5),0,(.kN jb)⟩,⟨0,xp,(gT .i0 .i2 .i5),0,(.Q2 wz [wA])⟩,⟨0,xq,(gT .i0 .i2 .i5),0,(.J3 wB)⟩,oP zC (.pick wy wC (.c (.bool false)))] (.cond uZ .ret .skip)))) (.sO [oP zD (ad3 rT (kI 3 1)),oM vh wD]))))
def BK:ah:=(sR [oP xb (lt3 lM jM)] (.seq (.cond l7 .skip (.exit 0)) (.seq (.block 1 (sR [oP xd (.xR 1 gu lM),oL tM tf,oM gZ kz] (sR [oM xe eF,oP xf (.fD og),oM vh (kI 3 0)] (.block 2 (.loop tA))))) (.sO [oP zE (ad3 lM (kI 3 1)),oM ve rV]))))
def acP:ah:=(sR [oL oT ja,oP oU (.fD gu),oM ve (kI 3 0)] (.block 0 (.loop BK)))
def C227:=oo (cd 227) (by conv=>lhs;reduce)
def tB:=oo (lb 0 C227) (by conv=>lhs;reduce)
def Z8:=oA (λa=>lm [a] C227) (by conv=>lhs;reduce) tB
def acM:=oo (cd 212) (by conv=>lhs;reduce)
def C215:=oo (cd 215) (by conv=>lhs;reduce)
def BJ:=oo (lb 0 C215) (by conv=>lhs;reduce)
def U4:=oA (λa=>lm [a] C215) (by conv=>lhs;reduce) BJ
/-- The functions,as they stand in a table. -/
structure aA (t:Nat->Option cP):Prop where
 k4:t 4=some (.code [s000,s001] [(.tmp s004)] c4)
 k90:t 90=some (.code [s000] [(.tmp s002)] c90)
 k9:t 9=some (.code [s000] [(.tmp s002),(.tmp s003)] c9)
 k35:t 35=some (.code [s000] [(.tmp s002)] c35)
 k82:t 82=some (.code [s000,s001,s002] [(.tmp s006)] c82)
 k71:t 71=some (.code [s000] [(.gD s002 7)] c71)
 k5:t 5=some (.code [s000,s001] [(.tmp s004)] c5)
 k7:t 7=some (.code [s000,s001] [(.tmp s004)] c7)
 k18:t 18=some (.code [s000] [] c18)
 k31:t 31=some (.code [s000] [(.tmp s002)] c31)
 k32:t 32=some (.code [s000] [(.tmp s002),(.tmp s003)] c32)
 k33:t 33=some (.code [s000,s001] [(.gD s004 7),(.tmp s005)] c33)
 k23:t 23=some (.code [s000,s001] [(.tmp s004)] c23)
 k34:t 34=some (.code [s000,s001] [(.tmp s004)] c34)
 k36:t 36=some (.code [s000] [(.tmp s002)] c36)
 k72:t 72=some (.code [s000] [(.tmp s002)] c72)
 k94:t 94=some (.code [s000,s001] [(.tmp s004),(.tmp s005)] c94)
 ad4:t 159=some (.code [s000] [(.gD s002 8)] acw)
 aaM:t 160=some (.code [s000,s001,s002] [(.tmp s006)] Z1)
 k92:t 92=some (.code [s000,s001] [(.tmp s004)] c92)
 k44:t 44=some (.code [s000] [(.tmp s002)] c44)
 k45:t 45=some (.code [s000] [(.tmp s002),(.tmp s003)] c45)
 k46:t 46=some (.code [s000] [(.gD s002 9),(.tmp s003)] c46)
 k47:t 47=some (.code [s000,s001,s002] [(.tmp s006)] c47)
 k37:t 37=some (.code [s000] [(.tmp s002)] c37)
 k95:t 95=some (.code [s000,s001] [(.tmp s004),(.tmp s005)] c95)
 k93:t 93=some (.code [s000,s001] [(.tmp s004),(.tmp s005)] c93)
 k53:t 53=some (.code [s000] [(.tmp s002)] c53)
 ad2:t 152=some (.code [s000,s001,s002] [(.tmp s006)] acv)
 k55:t 55=some (.code [s000,s001] [(.tmp s004),(.tmp s005),(.tmp s006)] c55)
 aaK:t 153=some (.code [s000] [(.gD s002 4)] ZZ)
 adX:t 143=some (.code [s000] [(.tmp s002)] afD)
 k56:t 56=some (.code [s000,s001,s002] [(.tmp s006)] c56)
 k63:t 63=some (.code [s000] [] c63)
 aaL:t 154=some (.code [s000,s001,s002] [] Z0)
 ad5:t 161=some (.code [s000,s001] [(.tmp s004)] UU)
 aaP:t 205=some (.code [s000] [(.gD s002 11)] Z4)
 aet:t 204=some (.code [s000,s001,s002] [(.tmp s006)] acL)
 k38:t 38=some (.code [s000] [(.tmp s002)] c38)
 k39:t 39=some (.code [s000] [(.tmp s002),(.tmp s003)] c39)
 Y8:t 40=some (.code [s000,s001] [(.tmp s004)] XX)
 k96:t 96=some (.code [s000] [(.tmp s002)] c96)
 k86:t 86=some (.code [s000,s001] [(.tmp s004),(.tmp s005)] c86)
 k54:t 54=some (.code [s000,s001,s002] [(.tmp s006)] c54)
 k66:t 66=some (.code [s000] [(.tmp s002)] c66)
 k88:t 88=some (.code [s000,s001,s002,s003] [(.gD s010 7),(.tmp s011)] Z9)
 k89:t 89=some (.code [s000,s001] [(.gD s004 2)] c89)
 k25:t 25=some (.code [s000] [(.tmp s002),(.gD s003 2),(.gD s004 2),(.tmp s005)] c25)
 k91:t 91=some (.code [s000,s001] [] c91)
 k73:t 73=some (.code [s000,s001] [(.tmp s003)] c73)
 k74:t 74=some (.code [s000] [(.tmp s002)] c74)
 k75:t 75=some (.code [s000] [(.tmp s001)] c75)
 k76:t 76=some (.code [s000] [(.tmp s002)] c76)
 k77:t 77=some (.code [s000,s001] [(.tmp s002)] c77)
 k78:t 78=some (.code [s000,s001] [(.tmp s004)] c78)
 k79:t 79=some (.code [s000,s001,s002] [(.tmp s003)] c79)
 k80:t 80=some (.code [s000,s001] [(.tmp s004)] c80)
 k81:t 81=some (.code [s000,s001,s002] [(.tmp s003)] c81)
 aes:t 202=some (.code [s000,s001] [(.tmp s004)] Z3)
 aaN:t 162=some (.code [s000,s001] [(.tmp s004),(.tmp s005)] UW)
 Vu:t 163=some (.code [s000,s001] [(.tmp s004),(.tmp s005)] UX)
 k97:t 97=some (.code [s000] [(.tmp s002)] c97)
 adE:t 104=some (.code [s000] [(.tmp s002),(.tmp s003),(.tmp s004)] acb)
 adH:t 117=some (.code [s000,s001] [(.tmp s004),(.tmp s005)] US)
 adI:t 118=some (.code [s000,s001] [(.tmp s004)] ace)
 adJ:t 120=some (.code [s000] [(.tmp s002),(.tmp s003)] acf)
 aaJ:t 103=some (.code [s000,s001] [(.tmp s004)] ZV)
 k98:t 98=some (.code [s000] [(.tmp s002)] c98)
 k99:t 99=some (.code [s000,s001] [(.tmp s004)] c99)
 adK:t 121=some (.code [s000] [(.tmp s002)] acg)
 adL:t 122=some (.code [s000] [(.tmp s001)] ach)
 adM:t 123=some (.code [s000] [(.tmp s002)] aci)
 adN:t 124=some (.code [s000] [(.gD s001 2)] acj)
 adO:t 125=some (.code [s000,s001] [(.tmp s002)] ack)
 adP:t 126=some (.code [s000,s001,s002] [(.tmp s006)] acm)
 adQ:t 127=some (.code [s000,s001,s002] [(.tmp s006)] acn)
 adR:t 128=some (.code [s000,s001,s002] [(.gD s003 4)] ZW)
 Vr:t 101=some (.code [s000] [(.tmp s002),(.tmp s003)] UR)
 Vs:t 129=some (.code [s000,s001,s002] [(.tmp s006)] MX)
 adS:t 130=some (.code [s000,s001] [(.tmp s004)] aco)
 sF:t 131=some (.code [s000,s001,s002,s003] [(.tmp s010)] sg)
 ad6:t 164=some (.code [s000,s001] [(.tmp s004)] acx)
 adT:t 139=some (.code [s000] [(.tmp s002)] ZX)
 adU:t 140=some (.code [s000,s001] [(.EC s004),(.EC s005)] acp)
 Vt:t 141=some (.code [s000,s001] [(.tmp s004),(.tmp s005)] UT)
 adW:t 142=some (.code [s000] [(.gD s002 9)] acq)
 aem:t 190=some (.code [s000] [(.tmp s002)] acH)
 aen:t 191=some (.code [s000,s001] [(.tmp s004)] U2)
 adD:t 100=some (.code [s000,s001] [(.tmp s004)] aca)
 adF:t 105=some (.code [s000,s001] [(.tmp s004),(.tmp s005)] acd)
 adG:t 106=some (.code [s000,s001] [(.tmp s004)] MV)
 k12:t 12=some (.code [s000] [(.tmp s002)] c12)
 adZ:t 149=some (.code [s000,s001] [(.tmp s004)] ZY)
 ad0:t 150=some (.code [s000] [(.tmp s002)] acs)
 adY:t 148=some (.code [s000,s001] [(.tmp s004)] acr)
 ad1:t 151=some (.code [s000,s001] [(.tmp s004)] acu)
 aaQ:t 206=some (.code [s000,s001] [(.tmp s004)] Z5)
 aeu:t 207=some (.code [s000,s001] [(.tmp s003)] U3)
 aaR:t 208=some (.code [s000,s001] [(.tmp s004)] Z6)
 aev:t 209=some (.code [s000,s001] [(.tmp s003)] Z7)
 aee:t 174=some (.code [s000] [(.tmp s002),(.tmp s003),(.tmp s004)] acD)
 aeh:t 177=some (.code [s000,s001] [(.tmp s004)] U0)
 aed:t 172=some (.code [s000] [(.tmp s002)] acC)
 aej:t 187=some (.code [s000] [(.tmp s002)] acF)
 aek:t 188=some (.code [s000] [(.tmp s002)] acG)
 ad7:t 165=some (.code [s000,s001,s002] [(.tmp s006)] Ee)
 ad8:t 166=some (.code [s000] [(.tmp s002)] UY)
 aaO:t 167=some (.code [s000,s001,s002] [(.tmp s003)] UZ)
 ael:t 189=some (.code [s000,s001] [(.tmp s004)] Z2)
 aea:t 169=some (.code [s000,s001] [(.tmp s004)] acz)
 aeb:t 170=some (.code [s000,s001] [(.tmp s004)] acA)
 aec:t 171=some (.code [s000] [(.tmp s002)] acB)
 aew:t 210=some (.code [s000] [(.tmp s002)] afG)
 aeo:t 197=some (.code [s000] [(.tmp s002)] acI)
 aep:t 198=some (.code [s000] [(.tmp s002)] acJ)
 aeq:t 199=some (.code [s000] [(.tmp s002)] acK)
 aer:t 200=some (.code [s000] [(.tmp s002)] afF)
 aeB:t 224=some (.code [s000] [(.tmp s002)] acO)
 ad9:t 168=some (.code [s000,s001] [(.tmp s004)] acy)
 aef:t 175=some (.code [s000,s001] [(.tmp s004)] acE)
 aeg:t 176=some (.code [s000,s001,s002] [(.tmp s004)] Pu)
 aei:t 178=some (.code [s000,s001] [(.tmp s004)] U1)
 aez:t 214=some (.code [s000] [(.tmp s002)] acN)
 aex:t 211=some (.code [s000] [(.tmp s002)] Pv)
 aeC:t 226=some (.code [s000,s001] [] acP)
 aaS:t 227=some (.code [s000,s001] [] Z8)
 aey:t 212=some (.code [s000,s001] [(.tmp s004)] acM)
 aeA:t 215=some (.code [s000,s001] [(.tmp s004)] U4)
theorem adn:aA (λf=>(Tryz.prog.funcs[f]?).bind (jz Tryz.prog f)):=by constructor<;>kernel_rfl
theorem aA.over {t t':Nat->Option cP} (h:∀ f ∈ [4,90,9,35,82,71,5,7,18,31,32,33,23,34,36,72,94,159,160,92,44,45,46,47,37,95,93,53,152,55,153,143,56,63,154,161,205,204,38,39,40,96,86,54,66,88,89,25,91,73,74,75,76,77,78,79,80,81,202,162,163,97,104,117,118,120,103,98,99,121,122,123,124,125,126,127,128,101,129,130,131,164,139,140,141,142,190,191,100,105,106,12,149,150,148,151,206,207,208,209,174,177,172,187,188,165,166,167,189,169,170,171,210,197,198,199,200,224,168,175,176,178,214,211,226,227,212,215],t f=t' f) (c:aA t'):aA t:=⟨(h 4 (by decide)).trans c.k4,(h 90 (by decide)).trans c.k90,(h 9 (by decide)).trans c.k9,(h 35 (by decide)).trans c.k35,(h 82 (by decide)).trans c.k82,(h 71 (by decide)).trans c.k71,(h 5 (by decide)).trans c.k5,(h 7 (by decide)).trans c.k7,(h 18 (by decide)).trans c.k18,(h 31 (by decide)).trans c.k31,(h 32 (by decide)).trans c.k32,(h 33 (by decide)).trans c.k33,(h 23 (by decide)).trans c.k23,(h 34 (by decide)).trans c.k34,(h 36 (by decide)).trans c.k36,(h 72 (by decide)).trans c.k72,(h 94 (by decide)).trans c.k94,(h 159 (by decide)).trans c.ad4,(h 160 (by decide)).trans c.aaM,(h 92 (by decide)).trans c.k92,(h 44 (by decide)).trans c.k44,(h 45 (by decide)).trans c.k45,(h 46 (by decide)).trans c.k46,(h 47 (by decide)).trans c.k47,(h 37 (by decide)).trans c.k37,(h 95 (by decide)).trans c.k95,(h 93 (by decide)).trans c.k93,(h 53 (by decide)).trans c.k53,(h 152 (by decide)).trans c.ad2,(h 55 (by decide)).trans c.k55,(h 153 (by decide)).trans c.aaK,(h 143 (by decide)).trans c.adX,(h 56 (by decide)).trans c.k56,(h 63 (by decide)).trans c.k63,(h 154 (by decide)).trans c.aaL,(h 161 (by decide)).trans c.ad5,(h 205 (by decide)).trans c.aaP,(h 204 (by decide)).trans c.aet,(h 38 (by decide)).trans c.k38,(h 39 (by decide)).trans c.k39,(h 40 (by decide)).trans c.Y8,(h 96 (by decide)).trans c.k96,(h 86 (by decide)).trans c.k86,(h 54 (by decide)).trans c.k54,(h 66 (by decide)).trans c.k66,(h 88 (by decide)).trans c.k88,(h 89 (by decide)).trans c.k89,(h 25 (by decide)).trans c.k25,(h 91 (by decide)).trans c.k91,(h 73 (by decide)).trans c.k73,(h 74 (by decide)).trans c.k74,(h 75 (by decide)).trans c.k75,(h 76 (by decide)).trans c.k76,(h 77 (by decide)).trans c.k77,(h 78 (by decide)).trans c.k78,(h 79 (by decide)).trans c.k79,(h 80 (by decide)).trans c.k80,(h 81 (by decide)).trans c.k81,(h 202 (by decide)).trans c.aes,(h 162 (by decide)).trans c.aaN,(h 163 (by decide)).trans c.Vu,(h 97 (by decide)).trans c.k97,(h 104 (by decide)).trans c.adE,(h 117 (by decide)).trans c.adH,(h 118 (by decide)).trans c.adI,(h 120 (by decide)).trans c.adJ,(h 103 (by decide)).trans c.aaJ,(h 98 (by decide)).trans c.k98,(h 99 (by decide)).trans c.k99,(h 121 (by decide)).trans c.adK,(h 122 (by decide)).trans c.adL,(h 123 (by decide)).trans c.adM,(h 124 (by decide)).trans c.adN,(h 125 (by decide)).trans c.adO,(h 126 (by decide)).trans c.adP,(h 127 (by decide)).trans c.adQ,(h 128 (by decide)).trans c.adR,(h 101 (by decide)).trans c.Vr,(h 129 (by decide)).trans c.Vs,(h 130 (by decide)).trans c.adS,(h 131 (by decide)).trans c.sF,(h 164 (by decide)).trans c.ad6,(h 139 (by decide)).trans c.adT,(h 140 (by decide)).trans c.adU,(h 141 (by decide)).trans c.Vt,(h 142 (by decide)).trans c.adW,(h 190 (by decide)).trans c.aem,(h 191 (by decide)).trans c.aen,(h 100 (by decide)).trans c.adD,(h 105 (by decide)).trans c.adF,(h 106 (by decide)).trans c.adG,(h 12 (by decide)).trans c.k12,(h 149 (by decide)).trans c.adZ,(h 150 (by decide)).trans c.ad0,(h 148 (by decide)).trans c.adY,(h 151 (by decide)).trans c.ad1,(h 206 (by decide)).trans c.aaQ,(h 207 (by decide)).trans c.aeu,(h 208 (by decide)).trans c.aaR,(h 209 (by decide)).trans c.aev,(h 174 (by decide)).trans c.aee,(h 177 (by decide)).trans c.aeh,(h 172 (by decide)).trans c.aed,(h 187 (by decide)).trans c.aej,(h 188 (by decide)).trans c.aek,(h 165 (by decide)).trans c.ad7,(h 166 (by decide)).trans c.ad8,(h 167 (by decide)).trans c.aaO,(h 189 (by decide)).trans c.ael,(h 169 (by decide)).trans c.aea,(h 170 (by decide)).trans c.aeb,(h 171 (by decide)).trans c.aec,(h 210 (by decide)).trans c.aew,(h 197 (by decide)).trans c.aeo,(h 198 (by decide)).trans c.aep,(h 199 (by decide)).trans c.aeq,(h 200 (by decide)).trans c.aer,(h 224 (by decide)).trans c.aeB,(h 168 (by decide)).trans c.ad9,(h 175 (by decide)).trans c.aef,(h 176 (by decide)).trans c.aeg,(h 178 (by decide)).trans c.aei,(h 214 (by decide)).trans c.aez,(h 211 (by decide)).trans c.aex,(h 226 (by decide)).trans c.aeC,(h 227 (by decide)).trans c.aaS,(h 212 (by decide)).trans c.aey,(h 215 (by decide)).trans c.aeA⟩
def L2:List Nat:=[4,90,9,35,82,71,5,7,18,31,32,33,23,34,36,72,94,159,160,92,44,45,46,47,37,95,93,53,152,55,153,143,56,63,154,161,205,204,38,39,40,96,86,54,66,88,89,25,91,73,74,75,76,77,78,79,80,81,202,162,163,97,104,117,118,120,103,98,99,121,122,123,124,125,126,127,128,101,129,130,131,164,139,140,141,142,190,191,100,105,106,12,149,150,148,151,206,207,208,209,174,177,172,187,188,165,166,167,189,169,170,171,210,197,198,199,200,224,168,175,176,178,214,211,226,227,212,215]
end Go.Ev
