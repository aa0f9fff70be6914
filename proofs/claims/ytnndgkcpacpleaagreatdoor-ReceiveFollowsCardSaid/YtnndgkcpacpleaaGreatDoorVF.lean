/- VF: a part of the evaluator,of its logic,or of the laws' walk in it. -/
import Derived.Test.YtnndgkcpacpleaaGreatDoorVL
import Derived.Test.YtnndgkcpacpleaaGreatDoorVC
import Derived.Test.YtnndgkcpacpleaaGreatDoorLC
import Derived.OpenShut
open List renaming getElem?_eq_getElem → YA,length_append → YC,getD_eq_getElem?_getD → YF,length_cons → YH,length_nil → YO,mem_of_getElem? → YS,mem_singleton → YU,take_of_length_le → YV,mem_cons → Yb,getElem?_map → Yg,mem_map → Yi,mem_append → Yn,getElem?_eq_some_iff → Yo,length_map → Ys,getElem?_take → Yu,drop_succ_cons → Yv,getElem?_drop → Yy,take_succ_cons → WD,length_take → WI,length_drop → WM,range → WX,getElem?_eq_none → WY,not_mem_nil → Wa,mem_range → QH,length_range → QI,ext_getElem? → Qc,getElem?_range → YD2,getElem_take → YO1
open Nat renaming le_refl → YB,lt_of_lt_of_le → YD,lt_or_ge → Yh,le_trans → Yr,add_zero → WL,mul_one → WS,lt_irrefl → QE,mod_lt → QG,add_assoc → Qe
open Or renaming inr → YE,inl → YG
open Int renaming emod_lt_of_pos → YE0,emod_nonneg → YI4
set_option linter.unusedVariables false
set_option linter.unusedSimpArgs false
set_option linter.unusedSectionVars false
set_option maxHeartbeats 8000000
open Nat renaming reduceAdd→ZA,reduceSub→ZB,reduceMul→ZC,reduceEqDiff→ZD,reduceLT→ZE,reduceDiv→ZF,reduceMod→ZG,reduceLeDiff→ZH
section
namespace Go.Ev
open Go.Proofs
def tI:Cn:=⟨[],(0,0),false⟩
def jE (c:CH) (k:Nat):Gd:=(c.aa.getD k tI).g
def gB (c:CH) (k:Nat):Gd:=if k=0 then (0,0) else jE c (k-1)
def gU (c:CH) (k:Nat):List Wr:=L0 (fp c k) (c.aa.getD k tI).iT
def yY (c:CH) (k:Nat):CH:={c with aa:=c.aa.take k,live:=fp c k }
structure CG (c:CH):Prop where
 ok:Bp c
 s8:c.size=8
 n8:c.aa.length<=8
 hid:∀ s ∈ c.aa,s.hid=false
 tx:∀ s ∈ c.aa,∀ x ∈ s.iT,okV x
 up:∀ k,k<c.aa.length->ef (jE c k) (gB c k)=true
theorem gm {c:CH} {k:Nat} (h:k<c.aa.length):c.aa[k]? = some (c.aa.getD k tI):=by
 rw [YF,YA h];rfl
theorem Q7 {c:CH} {k:Nat} (hk:k<=c.aa.length):(iA (yY c k)).g=gB c k/\(iA (yY c k)).iT=fp c k:=by
 have hl:(yY c k).aa.length=k:=by show (c.aa.take k).length=k;rw [WI];omega
 rcases k with _|k
 .rw [mE hl]
  exact ⟨rfl,rfl⟩
 .have hs:(yY c (k+1)).aa[k]? = some (c.aa.getD k tI):=by
   show (c.aa.take (k+1))[k]? = _
   rw [Yu,if_pos (by omega)]
   exact gm (by omega)
  rw [mD hs hl]
  exact ⟨rfl,rfl⟩
theorem Q8 {c:CH} (C:CG c) {k:Nat} (hk:k<c.aa.length):({yY c k with aa:=(yY c k).aa ++ [⟨(c.aa.getD k tI).iT,jE c k,false⟩],live:=(c.aa.getD k tI).iT }:CH)=yY c (k+1):=by
 have h1:=gm hk
 have h2:=C.hid _ (YS h1)
 have h3:(⟨(c.aa.getD k tI).iT,jE c k,false⟩:Cn)=c.aa.getD k tI:=by rw [<- h2];rfl
 unfold yY
 rw [h3]
 have h4:c.aa.take (k+1)=c.aa.take k ++ [c.aa.getD k tI]:=by rw [List.take_add_one,h1];rfl
 rw [h4]
 rfl
theorem qC.part {cs:List Wr} {b i n:Nat} (h:qC cs b):qC ((cs.drop i).take n) b:=by
 refine ⟨λc hc=>h.lt c (List.mem_of_mem_drop (List.mem_of_mem_take hc)),λj hj=>?_⟩
 rw [WI,WM]at hj
 have e:∀ q,q<n->((cs.drop i).take n).getD q (0,(0,0))=cs.getD (i+q) (0,(0,0)):=λq hq=>by
  rw [YF,YF,Yu,if_pos hq,Yy]
 rw [e j (by omega),e (j+1) (by omega)]
 exact h.up (i+j) (by omega)
theorem Ob {c:CH} (C:CG c) {k:Nat} (hk:k<=c.aa.length):(fp c k).length=8:=by
 unfold fp
 split
 .exact kZ (by rw [C.s8];omega)
 .have h1:c.aa[k-1]? = some (c.aa.getD (k-1) tI):=gm (by omega)
  exact C.ok.v8 _ (YS h1)
theorem tD {c:CH} (C:CG c) {k:Nat} (hk:k<c.aa.length):qC (gU c k) 8/\(gU c k).length<=8/\(c.aa.getD k tI).iT.length=8/\ld (jE c k):=by
 have hm:=YS (gm hk)
 have h8:=C.ok.v8 _ hm
 have h1:=aae (a:=fp c k) (C.tx _ hm)
 rw [h8]at h1
 refine ⟨h1,?_,h8,C.ok.g _ hm⟩
 have:=tF (fp c k) (c.aa.getD k tI).iT (c.aa.getD k tI).iT.length
 unfold gU L0
 omega
theorem Md {c:CH} (C:CG c) {k:Nat} (hk:k<=c.aa.length):ld (gB c k):=by
 unfold gB
 split
 .exact ⟨by show 0<_;omega,by show 0<_;omega⟩
 .exact (tD C (by omega)).2.2.2
structure FS (pk:List UInt8->List (List UInt8)) (A:AD) (a n:Nat) (us:List Wr) (m:MT) (c:CH) (k i:Nat):Prop where
 vi:VI pk A a n us m (yY c k)
 aZ:A.aZ=0
 l5:A.len=500
 hk:k<=c.aa.length
 tok:(i=0/\m.tok=Bf)\/(0<i/\k<c.aa.length/\i<(gU c k).length/\m.tok.b=gB c k/\m.tok.t=jE c k/\m.tok.next=i/\m.tok.all=(gU c k).length/\m.tok.cF.map (dE A)=dP (fp c k) (gU c k) i)
def jJ (c:CH) (k i:Nat):List Wr:=((gU c k).drop i).take 2
def zH (c:CH) (k i:Nat):Tk:=⟨gB c k,jE c k,i+(jJ c k i).length,(gU c k).length,[]⟩
variable {pk:List UInt8->List (List UInt8)} {unpk:List (List UInt8)->Option (List UInt8)} {A:AD} {a n:Nat} {us:List Wr} {m:MT} {c:CH} {k i:Nat}
theorem jH.stay (F:cD pk unpk) {o:zQ} {c':CH} (I:VI pk A a n us m c) (hf:A.aZ=0) (G:jH A m o c'):
 (∀ w ∈ o.bw,(sh pk A a o.m1 o.bw).1.read w.1=w.2)/\∀ l ∈ c8 m,∀ q ∈ l,dE (sh pk A a o.m1 o.bw).1 q=dE A q:=by
 obtain ⟨h1,h2,h3,h4,h5⟩:=Ah F I.lo I.hi G.ok G.l8 (λw hw=>let ⟨a1,a2,a3,a4,_⟩:=G.bw w hw; ⟨a1,a2,a3,a4⟩) G.nd G.len
 have h0:=(G.done F I hf).1
 have hR:sh pk A a o.m1 o.bw=A.eG pk a (Q4 pk A o.m1 o.bw):=by unfold sh;rw [if_pos h1]
 rw [hR]at h0 ⊢
 have hdid:=I.jd.eG F hf h4
 have h6:=h5.congr (λk hk=>(hdid.yes h0).1 k hk) λw hw=>(G.bw w hw).1
 refine ⟨λw hw=>h6.wr w hw,λl hlm q hq=>?_⟩
 unfold dE
 rcases I.ok.pl l hlm q hq with rfl|⟨h1,h2⟩
 .rw [if_pos rfl,if_pos rfl]
 .rw [if_neg (by omega),if_neg (by omega)]
  exact h6.other q h1 λhk=>by
   obtain ⟨w,hw,rfl⟩:=Yi.1 hk
   exact (G.bw w hw).2.2.2.2 l hlm hq
theorem sN:(jJ c k i).length=min 2 ((gU c k).length-i):=by unfold jJ;rw [WI,WM]
theorem Tc (C:CG c) (hk:k<c.aa.length) (hi:i<(gU c k).length\/i=0):OX (gB c k) (jE c k) i (gU c k).length (jJ c k i):=by
 obtain ⟨h1,h2,h3,h4⟩:=tD C hk
 have hl:=sN (c:=c) (k:=k) (i:=i)
 exact ⟨Md C (by omega),h4,C.up k hk,h2,by omega,by omega,λh=>by omega,h1.part⟩
theorem F6 (C:CG c) (hk:k<c.aa.length):jE c k≠(0,0):=λh=>by
 have:=C.up k hk
 rw [h]at this
 unfold ef at this
 simp at this
theorem FS.last (S:FS pk A a n us m c k i):(cR m).g=gB c k/\(cR m).cF.map (dE A)=fp c k:=by
 obtain ⟨h1,h2⟩:=S.vi.last
 obtain ⟨h3,h4⟩:=Q7 S.hk
 exact ⟨h1.trans h3,h2.trans h4⟩
theorem FS.i8 (S:FS pk A a n us m c k i) (hk:k<c.aa.length):i<(gU c k).length\/i=0:=S.tok.elim (λh=>YE h.1) λh=>YG h.2.2.1
theorem FS.stl (C:CG c) (S:FS pk A a n us m c k i) (hk:k<c.aa.length):gV (nO m (zH c k i)) 8 A.len/\(nO m (zH c k i) ∈ c8 m\/∀ q ∈ nO m (zH c k i),q=0)/\(nO m (zH c k i)).map (dE A)=dP (fp c k) (gU c k) i:=by
 rcases S.tok with ⟨rfl,h0⟩|⟨hi0,-,hia,h1,h2,h3,h4,h5⟩
 .have:nO m (zH c k 0)=(cR m).cF:=by
   unfold nO
   rw [if_neg]
   intro h
   have h2:=h.2.1
   rw [h0]at h2
   exact F6 C hk h2.symm
  rw [this]
  exact ⟨GF S.vi.ok S.vi.l8,Si,S.last.2⟩
 .have:nO m (zH c k i)=m.tok.cF:=by
   unfold nO
   rw [if_pos ⟨h1,h2,h4⟩]
  rw [this]
  have hk':=S.vi.ok.tok
  unfold qD at hk'
  rw [if_neg (by rw [h2];exact F6 C hk)]at hk'
  exact ⟨hk'.2.2.2.2.2,YG (List.mem_cons_of_mem _ (List.mem_cons_self ..)),h5⟩
theorem FS.st (C:CG c) (S:FS pk A a n us m c k i) (hk:k<c.aa.length):MM m (zH c k i) (jJ c k i):=by
 obtain ⟨h1,h2,h3,h4⟩:=tD C hk
 have hl:=sN (c:=c) (k:=k) (i:=i)
 have hi:=S.i8 hk
 refine ⟨S.last.1.symm,by rw [S.last.1];exact C.up k hk,h4,by rw [S.vi.l8];exact h2,by show i+(jJ c k i).length<=(gU c k).length;omega,?_,by rw [S.vi.l8];exact h1.part⟩
 show (i+(jJ c k i).length=0)=((gU c k).length=0)
 rw [eq_iff_iff]
 omega
theorem FS.ask (C:CG c) (S:FS pk A a n us m c k i) (hk:k<c.aa.length):Ut m (gB c k) (jE c k) i (gU c k).length=0:=by
 unfold Ut
 rw [if_pos S.last.1.symm,if_pos]
 unfold orP Sf
 rcases S.tok with ⟨rfl,h0⟩|⟨hi0,-,hia,h1,h2,h3,h4,h5⟩
 .rw [if_pos rfl,h0]
  have:¬ Bf.t=jE c k:=λh=>F6 C hk h.symm
  simp [this]
 .rw [if_neg (by omega),h1,h2,h3,h4]
  simp
theorem FS.room (S:FS pk A a n us m c k i) {cs:List Wr} (h:cs.length<=2):¬ nN m A.len cs:=λhf=>by
 unfold nN at hf
 have hr:=Tm (n:=500) (by have:=S.vi.ok;rwa [S.l5]at this) (by omega)
 rw [S.l5]at hf
 have:=pL cs cs.length
 omega
theorem jH.e05 {A:AD} {m:MT} {e:Nat} {o:zQ} {c:CH} (h:jH A m ⟨e,o.m1,o.bw⟩ c):jH A m o c:=⟨h.ok,h.Kl,h.l8,h.bw,h.nd,h.len,h.s8,h.ag⟩
theorem FS.take (F:cD pk unpk) (C:CG c) (S:FS pk A a n us m c k i) (hk:k<c.aa.length):
 ∃ o k' i',TE m A.len (zH c k i) (jJ c k i)=o/\o.e0=0/\(sh pk A a o.m1 o.bw).2=0/\9*k+i+2<=9*k'+i'/\(k'=k\/k'=k+1)/\∃ a' n' us',FS pk (sh pk A a o.m1 o.bw).1 a' n' us' o.m1 c k' i':=by
 obtain ⟨c1,c2,c3,c4⟩:=tD C hk
 have hl:=sN (c:=c) (k:=k) (i:=i)
 have hi:=S.i8 hk
 have Z:=S.st C hk
 obtain ⟨s1,s2,s3⟩:=S.stl C hk
 have hr:=S.room (cs:=jJ c k i) (by omega)
 have hcl:(jJ c k i).length<=12:=by omega
 have h20:m.aa.length<20:=by
  have:=S.vi.ag.len
  have h2:(yY c k).aa.length<=c.aa.length:=by show (c.aa.take k).length<=_;rw [WI];omega
  have:=C.n8
  omega
 have hvm:dP (dP (fp c k) (gU c k) i) (jJ c k i) (jJ c k i).length=dP (fp c k) (gU c k) (i+(jJ c k i).length):=by
  have:jJ c k i=((gU c k).drop i).take (jJ c k i).length:=by
   rw [hl]
   unfold jJ
   rcases Yh ((gU c k).length-i) 2 with h|h
   .rw [show min 2 ((gU c k).length-i)=(gU c k).length-i by omega,YV (by rw [WM];omega),YV (by rw [WM];exact YB _)]
   .rw [show min 2 ((gU c k).length-i)=2 by omega]
  rw [this]
  have hn:(((gU c k).drop i).take (jJ c k i).length).length=(jJ c k i).length:=by rw [<- this]
  rw [hn]
  exact Bk (by omega)
 by_cases hfin:i+(jJ c k i).length<(gU c k).length
 .have h1:1<=(zH c k i).next:=by show 1<=i+(jJ c k i).length;omega
  obtain ⟨G,ht,hv⟩:=K5 S.vi Z (Md C S.hk) hfin h1 hr s1 s2 hcl
  have hs0:Dd m (zH c k i)=0:=by
   unfold Dd
   rw [if_neg]
   rintro ⟨h,-⟩
   exact absurd h (Nat.ne_of_lt hfin)
  have he:(TE m A.len (zH c k i) (jJ c k i)).e0=0:=by unfold TE;simp [hs0,hr]
  have G':jH A m (TE m A.len (zH c k i) (jJ c k i)) (yY c k):=jH.e05 G
  obtain ⟨g1,g2,g3,g4,a',n',us',I'⟩:=G'.done F S.vi S.aZ
  obtain ⟨k1,k2⟩:=G'.stay F S.vi S.aZ
  refine ⟨_,k,i+(jJ c k i).length,rfl,he,g1,by omega,YG rfl,a',n',us',I',g2,g3.trans S.l5,S.hk,YE ⟨by omega,hk,hfin,?_⟩⟩
  have ht':(TE m A.len (zH c k i) (jJ c k i)).m1.tok=_:=ht
  rw [ht']
  refine ⟨rfl,rfl,rfl,rfl,?_⟩
  refine (hv _ (λw hw=>k1 w hw) λl hl q hq=>k2 l hl q hq).trans ?_
  rw [s3,hvm]
 .have hs0:Dd m (zH c k i)=0:=by
   unfold Dd
   rw [if_neg]
   rintro ⟨-,h⟩
   omega
  have he:(TE m A.len (zH c k i) (jJ c k i)).e0=0:=by unfold TE;simp [hs0,hr]
  have hal:i+(jJ c k i).length=(gU c k).length:=by omega
  have hbv:dP ((nO m (zH c k i)).map (dE A)) (jJ c k i) (jJ c k i).length=(c.aa.getD k tI).iT:=by
   rw [s3,hvm,hal]
   exact Ug (by rw [Ob C S.hk,c3])
  have G:=K3 S.vi Z hfin h20 hr s1 s2 hcl hbv
  have hc:({yY c k with aa:=(yY c k).aa ++ [⟨(c.aa.getD k tI).iT,(zH c k i).t,false⟩],live:=(c.aa.getD k tI).iT }:CH)=yY c (k+1):=Q8 C hk
  rw [hc]at G
  have G':jH A m (TE m A.len (zH c k i) (jJ c k i)) (yY c (k+1)):=jH.e05 G
  obtain ⟨g1,g2,g3,g4,a',n',us',I'⟩:=G'.done F S.vi S.aZ
  refine ⟨_,k+1,0,rfl,he,g1,by omega,YE rfl,a',n',us',I',g2,g3.trans S.l5,hk,YG ⟨rfl,?_⟩⟩
  show (Dv m A.len (zH c k i) (jJ c k i)).tok=Bf
  unfold Dv stM
  rw [if_neg (show ¬ (zH c k i).next<(zH c k i).all from hfin)]
theorem FS.ads (C:CG c) (S:FS pk A a n us m c k i) {j q:Nat} (hj:j<c.aa.length) (hq:q<(gU c j).length\/q=0) (hne:¬ (j=k/\q=i)) (inj:∀ x y,x<=c.aa.length->y<=c.aa.length->gB c x=gB c y->x=y):Ut m (gB c j) (jE c j) q (gU c j).length≠0:=by
 unfold Ut
 by_cases hb:gB c j=(cR m).g
 .rw [if_pos hb]
  rw [S.last.1]at hb
  obtain rfl:=inj j k (by omega) S.hk hb
  have hqi:q≠i:=λh=>hne ⟨rfl,h⟩
  rw [if_neg]
  .omega
  unfold orP Sf
  rcases S.tok with ⟨rfl,h0⟩|⟨hi0,-,hia,h1,h2,h3,h4,h5⟩
  .have:¬ Bf.t=jE c j:=λh=>F6 C hj h.symm
   rw [if_neg hqi,h0]
   simp [this]
  .by_cases hq0:q=0
   .rw [if_pos hq0,h1,h2,h4]
    simp
   .rw [if_neg hq0,h3]
    have:¬ i=q:=λh=>hqi h.symm
    simp [this]
 .rw [if_neg hb]
  omega
end Go.Ev
end
section
namespace Go.Ev
open Go.Proofs
def Al (l:List (Nat × Nat)):List V:=l.flatMap λp=>[.int 3 p.1,.int 4 p.2]
theorem xy:∀ {l:List (Nat × Nat)} {i:Nat},i<l.length->(Al l)[i*2]? = some (.int 3 (l.getD i (0,0)).1)/\(Al l)[i*2+1]? = some (.int 4 (l.getD i (0,0)).2)
 | [],i,h=>by simp at h
 | p :: l,0,h=>⟨rfl,rfl⟩
 | p :: l,i+1,h=>by
  have:=xy (l:=l) (i:=i) (by simpa using h)
  rw [show (i+1)*2=i*2+2 by omega]
  exact this
def IW (H:Heap) (v:V) (l:List (Nat × Nat)):Prop:=l.length<9223372036854775808/\(∀ q ∈ l,q.1<18446744073709551616/\q.2<256)/\Row H (λ_=>False) v 2 l.length (Al l)
theorem IW.fresh {H G:Heap} {v:V} {l:List (Nat × Nat)} (h:IW H v l) (f:af H G):IW G v l:=⟨h.1,h.2.1,h.2.2.fresh f⟩
theorem Xc {H:Heap} {O:Nat->Prop} {v:V} {sz n:Nat} {row:List V} (h:Row H O v sz n row) (hn:0<n):∃ b o c s,v = .slice b o n c s/\b<H.n/\¬ O b/\∀ {G:Heap},G.get b=H.get b->∀ {j:Nat} {x:V},row[j]? = some x->∀ {id:Nat} {k:V->R},Du id (G.get b) (o+j) k=k x:=by
 obtain ⟨h1,h2,⟨_,e0⟩|⟨b,o,c,s,l,e,hr,hb,hO,hl,hrow⟩⟩:=h
 .omega
 .refine ⟨b,o,c,s,e,hb,hO,λ{G} hG {j x} hx {id k}=>?_⟩
  have hj:j<row.length:=by
   rcases Yh j row.length with h|h
   .exact h
   .rw [WY h]at hx;cases hx
  rw [<- hrow,Yu,if_pos (by omega),Yy]at hx
  exact yA (by rw [hG];exact hr) hx (h2 x (by rw [<- hrow];exact YS (i:=j) (by rw [Yu,if_pos (by omega),Yy];exact hx)))
theorem agh {n:Nat} (h:n<18446744073709551616):∃ r,(∀ {id:Nat} {f:Nat->R},kE id (.rem 9223372036854775808) n 8 f=f r)/\(r+8)%18446744073709551616<16:=by
 by_cases h1:n<9223372036854775808
 .exact ⟨n%8,λ{id f}=>sd h1 (by omega) (by omega),by omega⟩
 .refine ⟨(2*9223372036854775808-(2*9223372036854775808-n)%8)%(2*9223372036854775808),λ{id f}=>?_,by omega⟩
  show aF (Nat.blt n 9223372036854775808) _ (aF (Nat.blt 8 9223372036854775808) (aF (Nat.beq 8 0) (no 0) (au _ f)) (no 0))=_
  rw [bB,if_neg (by rw [Nat.blt_eq];exact h1),bB,if_pos (by rw [Nat.blt_eq];omega),bB,if_neg (by decide),aw]
  rfl
section
variable {cp:RC->ah} {t:Nat->Option cP} {fuel:Nat} {H:Heap}
theorem Fv (T:aA t) {c:Nat} (hw:H.wf) (hc:c<256) (hfu:1000<fuel):
 ∃ H',(∀ (d:Nat) (k:K),aj (aN cp t fuel (d+1)) (.func 24 []) [.int 4 c] H k=k (.str 32 (enc (hU c 32))) H')/\af H H':=by
 obtain ⟨G1,hG1,f1,p1,n1⟩:=Heap.aO hw (.bytes 32 0)
 have n32:nn 32:=by unfold nn;omega
 obtain ⟨_,G',⟨f',g',n'⟩,z⟩:=bA (c:=LF) (fuel:=fuel) (ph:=λd=>aN cp t fuel d) (σ:=Unit) (n:=32)
  (I:=λi _ G=>af H G/\G.get H.n = .bytes 32 (enc (hU c i))/\H.n<G.n)
  (S:=λi _ e=>ae s000 e = .int 4 c/\ae s003 e = .slice H.n 0 32 33 0/\ae s004 e = .int 3 i) (λi _ G hil ⟨f,g,hn⟩=>by
   have hx:=Oc (c:=c) (i:=i) (by omega)
   have w0:=f.wf
   obtain ⟨G2,hG2,f2,p2,n2,w2,k2⟩:=Heap.aU (b:=H.n) f (YB _) hn (.bytes 32 (enc (hU c (i+1))))
   have a1:nn i:=by unfold nn;omega
   have a2:i<9223372036854775808:=by omega
   have a3:(i+1)%18446744073709551616=i+1:=by omega
   have a4:i+1<=32:=by omega
   refine ⟨(),G2,⟨f2,p2,by omega⟩,λd kx r e x ⟨q0,q3,q4⟩ hk=>?_⟩
   rw [ak]
   simp only [go_sem,ZE,LF,q0,q3,q4,hil,n32,a1,a2,a3,a4,g,hx,w0,hn,hG2]
   exact hk _ (by simp only [go_sem,q0,q3,and_self])) 32 0 () G1 (by omega) ⟨f1,p1,by omega⟩
 refine ⟨G',λd k=>?_,f'⟩
 have e6:¬ (32:Nat)<32:=by omega
 have e8:enc (hU c 32)%256 ^ 32=enc (hU c 32):=Nat.mod_eq_of_lt (X7 c)
 have e9:(32:Nat)<=32:=by omega
 rw [aJ T.k12 rfl rfl]
 simp only [go_sem,c12,hw,hG1]
 refine z d _ fuel _ _ (by omega) ⟨?_,?_,?_⟩ λr e' ⟨q0,q3,q4⟩=>?_
 .rfl
 .rfl
 .rfl
 rw [ak]
 simp only [go_sem,ZE,LF,q3,q4,n32,e6,g',Nat.shiftRight_zero,e8,e9]
theorem uF (T:aA t) {a b:Nat} (hw:H.wf):
 ∃ H',(∀ (d:Nat) (k:K),aj (aN cp t fuel (d+1)) (.func 178 []) [.int 7 a,.int 7 b] H k=k (.agg [.int 7 a,.int 7 b]) H')/\af H H':=by
 obtain ⟨G1,hG1,f1,p1,n1⟩:=Heap.aO hw (.cells [.int 7 0,.int 7 0])
 have w1:=f1.wf
 have b1:H.n<G1.n:=by omega
 obtain ⟨G2,hG2,f2,p2,n2,w2,k2⟩:=Heap.aU (b:=H.n) f1 (YB _) b1 (.cells [.int 7 a,.int 7 b])
 refine ⟨G2,λd k=>?_,f2⟩
 rw [aJ T.k89 rfl rfl]
 simp only [go_sem,c89,hw,hG1,p1,w1,b1,hG2,↓dW,p2]
theorem KO (T:aA t) {H0:Heap} {c:CH} {v lv:V} {p:Nat} {l:List (Nat × Nat)} (f0:af H0 H) (own:∀ b,CQ p v b->H0.n<=b) (C:jK H p c v) (s8:c.size=8) (tx:∀ x ∈ c.live,okV x) (hl:IW H0 lv l) (hfu:1000<fuel):
 ∃ H' c',(∀ (d:Nat) (k:K),aj (aN cp t fuel (d+3)) (.func 182 []) [.ptr p 0,lv] H k=k (.cH []) H')/\Step H (CQ p v) H' (CQ p v)/\jK H' p c' v/\c'.aa=c.aa/\c'.size=8/\∀ x ∈ c'.live,okV x:=by
 have hn:=hl.1
 have nl:nn l.length:=hn
 have sn:=λ{id:Nat} {f:Nat->R}=>hl.2.2.sn (id:=id) (f:=f)
 have jv:=λ{id:Nat} {k:R}=>aI hl.2.2.one (id:=id) (k:=k)
 have n8:nn 8:=by unfold nn;omega
 obtain ⟨c',G',⟨s',C',h1,h2,h3⟩,z⟩:=bA (c:=Ae) (fuel:=fuel) (ph:=λd=>aN cp t fuel (d+2)) (σ:=CH) (n:=min l.length 8)
  (I:=λi q G=>Step H (CQ p v) G (CQ p v)/\jK G p q v/\q.aa=c.aa/\q.size=8/\∀ x ∈ q.live,okV x)
  (S:=λi _ e=>ae s000 e = .ptr p 0/\ae s001 e=lv/\ae s004 e = .int 3 i) (λi q G hin ⟨s,C1,h1,h2,h3⟩=>by
   have hil:i<l.length:=by omega
   have hi8:i<8:=by omega
   have ci:i<9223372036854775808:=by omega
   have ni:nn i:=by unfold nn;omega
   have i1:(i+1)%18446744073709551616=i+1:=by omega
   have f0G:=(f0.own s own).1
   obtain ⟨bL,oL,cL,zL,hvL,hbL,-,hrL⟩:=Xc (hl.fresh f0G).2.2 (by omega)
   obtain ⟨e0,e1⟩:=xy hil
   obtain ⟨y0,y1⟩:=hl.2.1 _ (YS (show l[i]? = some (l.getD i (0,0)) by rw [YF,YA hil];rfl))
   generalize (l.getD i (0,0)).1=y at *
   generalize (l.getD i (0,0)).2=z at *
   have hr0:=λ{id:Nat} {k:V->R}=>hrL (G:=G) rfl e0 (id:=id) (k:=k)
   have hr1:∀ {id:Nat} {k:V->R},Du id (G.get bL) (oL+i*2+1) k=k (.int 4 z):=λ{id k}=>by rw [Qe];exact hrL rfl e1
   obtain ⟨r,hr,hr8⟩:=agh y0
   have w0:=C1.wf
   have wm:G.mark.wf:=by rw [Heap.dm];exact w0
   obtain ⟨Gm,G1,z1o,hu1,hl1,f1⟩:=pG (cp:=cp) (fuel:=fuel) (Fv (cp:=cp) (fuel:=fuel) T wm y1 hfu)
   have z1:=λ{d:Nat} {k:K}=>z1o d k
   clear z1o
   have hb8:(r+8)%18446744073709551616%8<8:=QG _ (by omega)
   have hs:∀ {id:Nat} {f:Nat->R},kE id (.rem 9223372036854775808) ((r+8)%18446744073709551616) 8 f=f ((r+8)%18446744073709551616%8):=λ{id f}=>sd (by omega) (by omega) (by omega)
   generalize (r+8)%18446744073709551616%8=b8 at *
   obtain ⟨G2,z2o,s2,C2⟩:=EO (cp:=cp) (fuel:=fuel) (b:=b8) (l:=32) (x:=enc (hU z 32)) T (C1.fresh f1) (by unfold nn;omega) (by omega)
   have z2:=λ{d:Nat} {k:K}=>z2o d k
   rw [h2,if_pos ⟨hb8,rfl⟩]at z2
   have hwr:OS q b8 (32,enc (hU z 32))={q with live:=q.live.set b8 (32,enc (hU z 32))}:=by unfold OS;rw [if_pos ⟨by omega,rfl⟩]
   rw [hwr]at C2
   have hlv:∀ x ∈ q.live.set b8 (32,enc (hU z 32)),okV x:=λx hx=>by
    rcases List.mem_or_eq_of_mem_set hx with h|rfl
    .exact h3 x h
    .exact ⟨rfl,X7 z⟩
   refine ⟨_,G2,⟨s.trans (f1.step.trans s2),C2,h1,h2,hlv⟩,λd kx rr e x ⟨q0,q1,q4⟩ hk=>?_⟩
   rw [ak]
   rw [hvL]at q1 sn
   simp only [go_sem,Ae,q0,q1,q4,hil,hi8,ci,ni,i1,nl,n8,hn,↓hr0,↓hr1,↓hr,↓hs,↓z1,hu1,hl1,↓z2]
   exact hk _ (by simp only [go_sem,q0,q1,hvL,and_self])) (min l.length 8) 0 c H (by omega) ⟨Step.refl C.wf,C,rfl,s8,tx⟩
 refine ⟨G',c',λd k=>?_,s',C',h1,h2,h3⟩
 rw [aJ T.k91 rfl rfl]
 simp only [go_sem,c91]
 refine z d _ fuel _ _ (by omega) ⟨?_,?_,?_⟩ λr e' ⟨q0,q1,q4⟩=>?_
 .rfl
 .rfl
 .rfl
 rw [ak]
 by_cases h:l.length<8
 .rw [show min l.length 8=l.length by omega]at q4
  simp only [go_sem,Ae,q1,q4,nl,hn,↓sn,QE]
 .rw [show min l.length 8=8 by omega]at q4
  by_cases h1:8<l.length
  .simp only [go_sem,Ae,q1,q4,nl,hn,n8,↓sn,h1,QE]
  .have e2:l.length=8:=by omega
   rw [e2]at sn
   simp only [go_sem,ZE,Ae,q1,q4,n8,↓sn,QE]
end
end Go.Ev
end
section
namespace Go.Ev
open Go.Proofs
def OZ (H:Heap) (v:V) (rs:List (List (Nat × Nat))):Prop:=rs.length<9223372036854775808/\∃ xs:List V,Row H (λ_=>False) v 1 rs.length xs/\∀ (i:Nat) (r:List (Nat × Nat)),rs[i]? = some r->∃ x,xs[i]? = some x/\IW H x r
structure SG (q:CH) (i:Nat):Prop where
 s8:q.size=8
 len:q.aa.length=i
 g:∀ j,j<i->jE q j=(1,j+1)
 hid:∀ s ∈ q.aa,s.hid=false
 tx:∀ s ∈ q.aa,∀ x ∈ s.iT,okV x
 lv:∀ x ∈ q.live,okV x
theorem Sg {q:CH} {i:Nat} (h:q.aa.length=i):(iA q).g=gB q i:=by
 unfold gB
 rcases i with _|i
 .rw [mE h];rfl
 .have hs:q.aa[i]? = some (q.aa.getD i tI):=gm (by omega)
  rw [mD hs h]
  rfl
theorem SG.next {q:CH} {i:Nat} (S:SG q i) (h8:i<8):sK q (1,i+1)=0:=by
 unfold sK
 rw [Sg S.len]
 have:ef (1,i+1) (gB q i)=true:=by
  unfold gB
  split
  .simp [ef]
  .rw [S.g (i-1) (by omega)]
   simp [ef]
   omega
 rw [if_neg (by simp [this]),if_neg (by rw [S.len];omega)]
theorem SG.snap {q:CH} {i:Nat} (S:SG q i) (h8:i<8):SG (TH q (1,i+1)) (i+1):=by
 unfold TH
 rw [if_pos (S.next h8)]
 refine ⟨S.s8,by show (q.aa ++ [_]).length=_;rw [YC,S.len];rfl,λj hj=>?_,λs hs=>?_,λs hs=>?_,S.lv⟩
 .show ((q.aa ++ [_]).getD j tI).g=_
  rw [YF]
  by_cases h:j<i
  .rw [List.getElem?_append_left (by rw [S.len];exact h),<- YF]
   exact S.g j h
  .obtain rfl:j=i:=by omega
   rw [List.getElem?_append_right (by rw [S.len];exact YB _),S.len,Nat.sub_self]
   rfl
 .rcases Yn.1 hs with hs|hs
  .exact S.hid s hs
  .rw [YU.1 hs]
 .rcases Yn.1 hs with hs|hs
  .exact S.tx s hs
  .rw [YU.1 hs];exact S.lv
theorem SG.RT {q:CH} {i:Nat} (S:SG q i) (hok:Bp q) (h8:i<=8):CG q:=
 ⟨hok,S.s8,by rw [S.len];exact h8,S.hid,S.tx,λk hk=>by
  rw [S.len]at hk
  rw [S.g k hk]
  unfold gB
  split
  .simp [ef]
  .rw [S.g (k-1) (by omega)]
   simp [ef]
   omega⟩
theorem SG.inj {q:CH} {i:Nat} (S:SG q i):∀ x y,x<=q.aa.length->y<=q.aa.length->gB q x=gB q y->x=y:=λx y hx hy h=>by
 rw [S.len]at hx hy
 unfold gB at h
 split at h<;>split at h
 .omega
 .rw [S.g (y-1) (by omega)]at h
  exact absurd (congrArg Prod.fst h) (by show ¬ (0:Nat)=1;omega)
 .rw [S.g (x-1) (by omega)]at h
  exact absurd (congrArg Prod.fst h) (by show ¬ (1:Nat)=0;omega)
 .rw [S.g (x-1) (by omega),S.g (y-1) (by omega)]at h
  have:=congrArg Prod.snd h
  simp only at this
  omega
variable {cp:RC->ah} {t:Nat->Option cP} {fuel:Nat} {H:Heap}
theorem Im (T:aA t) (hw:H.wf) {lv:V} {rs:List (List (Nat × Nat))} (hl:OZ H lv rs) (hfu:1000<fuel):
 ∃ H' p v c,(∀ (d:Nat) (k:K),aj (aN cp t fuel (d+5)) (.func 62 []) [lv] H k=k (.ptr p 0) H')/\af H H'/\jK H' p c v/\SG c c.aa.length/\c.aa.length<=8/\∀ b,CQ p v b->H.n<=b:=by
 obtain ⟨hn,xs,hrow,heach⟩:=hl
 obtain ⟨G1,p,z1o,f1,C1,hp⟩:=M1 (cp:=cp) (fuel:=fuel) (n:=8) T hw (by omega) (by omega) hfu
 have z1:=λ{d:Nat} {k:K}=>z1o d k
 have nl:nn rs.length:=hn
 have sn:=λ{id:Nat} {f:Nat->R}=>hrow.sn (id:=id) (f:=f)
 have jv:=λ{id:Nat} {k:R}=>aI hrow.one (id:=id) (k:=k)
 have n8:nn 8:=by unfold nn;omega
 have S0:SG ⟨zT 8,8,[]⟩ 0:=⟨rfl,rfl,λj hj=>by omega,λs hs=>(by cases hs),λs hs=>(by cases hs),λx hx=>by
  have:x=(32,0):=by
   have h1:x ∈ List.replicate 8 ((32,0):Tx):=by simpa [zT] using hx
   exact (List.mem_replicate.1 h1).2
  subst this
  exact ⟨rfl,by show 0<256 ^ 32;omega⟩⟩
 obtain ⟨⟨c,v⟩,G',⟨C',fr,own,SG'⟩,z⟩:=bA (c:=zV) (fuel:=fuel) (ph:=λd=>aN cp t fuel (d+4)) (σ:=CH × V) (n:=min rs.length 8)
  (I:=λi q G=>jK G p q.1 q.2/\af H G/\(∀ b,CQ p q.2 b->H.n<=b)/\SG q.1 i)
  (S:=λi _ e=>ae s000 e=lv/\ae s003 e = .ptr p 0/\ae s004 e = .int 3 i) (λi q G hin ⟨C,fr,own,S⟩=>by
   obtain ⟨q,v⟩:=q
   simp only at C own S
   have hil:i<rs.length:=by omega
   have hi8:i<8:=by omega
   have ci:i<9223372036854775808:=by omega
   have ni:nn i:=by unfold nn;omega
   have i1:(i+1)%18446744073709551616=i+1:=by omega
   have hri:rs[i]? = some rs[i]:=YA hil
   obtain ⟨x,hx,hP⟩:=heach i _ hri
   obtain ⟨bL,oL,cL,zL,hvL,hbL,-,hrL⟩:=(hrow.fresh fr).open hil
   have hrL:=λ{id:Nat} {k:V->R}=>(hrL (G:=G) rfl).2 (by rw [WS];exact hx) (id:=id) (k:=k)
   rw [WS]at hrL
   obtain ⟨G2,q2,z2o,s2,C2,h1,h2,h3⟩:=KO (cp:=cp) (fuel:=fuel) T fr own C S.s8 S.lv hP hfu
   have z2:=λ{d:Nat} {k:K}=>z2o (d+1) k
   have S2:SG q2 i:=⟨h2,by rw [h1];exact S.len,λj hj=>by unfold jE;rw [h1];exact S.g j hj,by rw [h1];exact S.hid,by rw [h1];exact S.tx,h3⟩
   obtain ⟨fr2,own2⟩:=fr.own s2 own
   obtain ⟨G3,z3o,f3⟩:=uF (cp:=cp) (fuel:=fuel) (a:=1) (b:=i+1) T C2.wf
   have z3:=λ{d:Nat} {k:K}=>z3o d k
   obtain ⟨G4,v4,z4o,s4,C4⟩:=Jw (cp:=cp) (fuel:=fuel) (g:=(1,i+1)) T (C2.fresh f3) ⟨by show 1<_;omega,by show i+1<_;omega⟩ hfu
   have z4:=λ{d:Nat} {k:K}=>z4o d k
   rw [S2.next hi8]at z4
   simp only [aS]at z4
   obtain ⟨fr4,own4⟩:=(fr2.trans f3).own s4 own2
   have e5:(i+1)%18446744073709551616%18446744073709551616=i+1:=by omega
   refine ⟨(TH q2 (1,i+1),v4),G4,⟨C4,fr4,own4,S2.snap hi8⟩,λd kx r e y ⟨q0,q3,q4⟩ hk=>?_⟩
   rw [ak]
   rw [hvL]at q0 sn
   simp only [go_sem,zV,q0,q3,q4,hil,hi8,ci,ni,nl,hn,n8,i1,↓hrL,↓z2,↓z3,↓z4]
   exact hk _ (by simp only [go_sem,q0,q3,hvL,and_self])) (min rs.length 8) 0 (⟨zT 8,8,[]⟩,.az) G1 (by omega) ⟨C1,f1,λb (hb:CQ p .az b)=>hb.elim (λe=>by rw [e];exact hp) (λh=>by obtain ⟨_,_,_,_,h⟩:=h;cases h),S0⟩
 have hlen:=SG'.len
 simp only at hlen C' own SG'
 refine ⟨G',p,v,c,λd k=>?_,fr,C',by rw [hlen];exact SG',by omega,own⟩
 rw [aJ T.k31 rfl rfl]
 simp only [go_sem,c31,↓z1]
 refine z d _ fuel _ _ (by omega) ⟨?_,?_,?_⟩ λr e' ⟨q0,q3,q4⟩=>?_
 .rfl
 .rfl
 .rfl
 rw [ak]
 by_cases h:rs.length<8
 .rw [show min rs.length 8=rs.length by omega]at q4
  simp only [go_sem,zV,q0,q3,q4,nl,hn,↓sn,QE]
 .rw [show min rs.length 8=8 by omega]at q4
  by_cases h1:8<rs.length
  .simp only [go_sem,zV,q0,q3,q4,nl,hn,n8,↓sn,h1,QE]
  .have e2:rs.length=8:=by omega
   rw [e2]at sn
   simp only [go_sem,ZE,zV,q0,q3,q4,n8,↓sn,QE]
end Go.Ev
end
section
namespace Go.Ev
open Go.Proofs
theorem L1 {q:CH} {i:Nat} (S:SG q q.aa.length) (h:i<q.aa.length) {l:List Cn} (hl:∃ k,l=q.aa.take k/\i<k):cidx l (jE q i)=some i:=by
 obtain ⟨k,rfl,hik⟩:=hl
 unfold cidx
 rw [List.findIdx?_eq_some_iff_getElem]
 have hk:i<(q.aa.take k).length:=by rw [WI];omega
 refine ⟨hk,?_,λj hj=>?_⟩
 .rw [YO1]
  have:=gm h
  rw [YA h]at this
  rw [Option.some.inj this]
  simp [jE]
 .rw [YO1]
  have hjl:j<q.aa.length:=by omega
  have:=gm hjl
  rw [YA hjl]at this
  rw [Option.some.inj this]
  have h1:=S.g j hjl
  have h2:=S.g i h
  show ¬ decide ((q.aa.getD j tI).g=jE q i)=true
  rw [show (q.aa.getD j tI).g=jE q j from rfl,h1,h2]
  simp
  omega
theorem aab {q:CH} {i:Nat} (S:SG q q.aa.length) (h:i<q.aa.length):yX q (jE q i)=(i,0):=by
 unfold yX
 rw [L1 S h ⟨q.aa.length,(List.take_length).symm,h⟩]
 simp only
 have:=S.hid _ (YS (gm h))
 rw [show (q.aa.getD i ⟨[],(0,0),false⟩).hid=false from this]
 rfl
theorem aad {q:CH} {i k:Nat} (S:SG q q.aa.length) (h:i<q.aa.length) (hik:i<k):yX (yY q k) (jE q i)=(i,0):=by
 unfold yX
 rw [L1 (l:=(yY q k).aa) S h ⟨k,rfl,hik⟩]
 simp only
 have:=S.hid _ (YS (gm h))
 have e:(yY q k).aa.getD i ⟨[],(0,0),false⟩=q.aa.getD i tI:=by
  show (q.aa.take k).getD i _=_
  rw [YF,Yu,if_pos hik,YF]
  rfl
 rw [e,this]
 rfl
variable {cp:RC->ah} {t:Nat->Option cP} {fuel:Nat} {H:Heap}
theorem Pe {G:Heap} {Q Q':Nat->Prop} {x y:V} {ts:List Tx} (hx:Row G Q x 1 ts.length (ts.map sv)) (hy:Row G Q' y 1 ts.length (ts.map sv)) (hn:ts.length<1000) (hfu:1000<fuel) {v0 v1 v5 v6 v7:V} (ph:cU) (kx:Nat->KE) (e:Env) (z:R) (q0:ae s000 e=v0) (q1:ae s001 e=v1) (q5:ae s005 e=v5) (q6:ae s006 e=v6) (q7:ae s007 e=v7) (q10:ae s010 e=x) (q12:ae s012 e=y) (q14:ae s014 e = .int 3 0)
 (hk:∀ e',ae s000 e'=v0->ae s001 e'=v1->ae s005 e'=v5->ae s006 e'=v6->ae s007 e'=v7->kx 3 e' G=z):jQ Ei fuel ph kx fuel e G=z:=by
 have nl:nn ts.length:=by unfold nn;omega
 have c9:ts.length<9223372036854775808:=by omega
 have sx:=λ{id:Nat} {f:Nat->R}=>hx.sn (id:=id) (f:=f)
 obtain ⟨_,G',hG',zz⟩:=bA (c:=Ei) (fuel:=fuel) (ph:=λ_=>ph) (σ:=Unit) (n:=ts.length)
  (I:=λj _ X=>X=G)
  (S:=λj _ e=>ae s000 e=v0/\ae s001 e=v1/\ae s005 e=v5/\ae s006 e=v6/\ae s007 e=v7/\ae s010 e=x/\ae s012 e=y/\ae s014 e = .int 3 j) (λj _ X hj hX=>by
   subst hX
   have cj:j<9223372036854775808:=by omega
   have nj:nn j:=by unfold nn;omega
   have j1:(j+1)%18446744073709551616=j+1:=by omega
   have hg:(ts.map sv)[j*1]? = some (sv ts[j]):=by rw [WS,Yg,YA hj];rfl
   obtain ⟨bX,oX,cX,zX,hvX,hbX,-,hrX⟩:=hx.open hj
   obtain ⟨bY,oY,cY,zY,hvY,hbY,-,hrY⟩:=hy.open hj
   have hrX:=λ{id:Nat} {k:V->R}=>(hrX (G:=X) rfl).2 hg (id:=id) (k:=k)
   have hrY:=λ{id:Nat} {k:V->R}=>(hrY (G:=X) rfl).2 hg (id:=id) (k:=k)
   rw [WS]at hrX hrY
   refine ⟨(),X,rfl,λd kx r e z ⟨q0,q1,q5,q6,q7,q10,q12,q14⟩ hk=>?_⟩
   rw [ak]
   simp only [sv]at hrX hrY
   rw [hvX]at q10 sx
   rw [hvY]at q12
   simp only [go_sem,Ei,q10,q12,q14,↓sx,c9,hj,nl,cj,nj,j1,↓hrX,↓hrY]
   exact hk _ (by simp only [go_sem,q0,q1,q5,q6,q7,q10,q12,hvX,hvY,and_self])) ts.length 0 () G (by omega) rfl
 subst hG'
 refine zz 0 kx fuel e z (by omega) ⟨q0,q1,q5,q6,q7,q10,q12,q14⟩ λr e' ⟨q0,q1,q5,q6,q7,q10,q12,q14⟩=>?_
 rw [ak]
 simp only [go_sem,Ei,q10,q14,↓sx,c9,nl,QE]
 exact hk _ q0 q1 q5 q6 q7
variable {dp vp a n p k:Nat} {A:AD} {O:Nat->Prop} {m:MT} {vl vs vi v:V} {c:CH}
theorem I9 (T:aA t) (hc:aY t) (S:VP H dp vp a n A O m vl vs vi) (C:jK H p c v) (hd:∀ b,CQ p v b->¬ bQ O vp b) (hs:c.size=8) (G0:SG c c.aa.length) (hk:k<=c.aa.length) (g:qK A m (yY c k)) (hlp:∀ s ∈ m.aa,∀ q ∈ s.cF,q<A.len) (hil:∀ s ∈ m.aa,s.cF.length=8) (hfu:1000<fuel):
 ∃ H',(∀ (d:Nat) (k:K),aj (aN cp t fuel (d+6)) (.func 68 []) [.ptr vp 0,.ptr p 0] H k=k (.bool true) H')/\Uv H H' dp vp a n A O m vl vs vi p c v:=by
 have hml:m.aa.length=k:=by rw [g.len];show (c.aa.take k).length=k;rw [WI];omega
 have hcn:=C.ok.n
 obtain ⟨G1,vL,z1o,f1,o1⟩:=rL (cp:=cp) (fuel:=fuel) T S hfu
 have z1:=λ{d:Nat} {k:K}=>z1o (d+4) k
 clear z1o
 have V1:=(Uv.mk (Step.refl S.fC.wf) S C).fresh f1
 obtain ⟨G2,vM,z2o,f2,o2⟩:=oQ (cp:=cp) (fuel:=fuel) T V1.ch hfu
 have z2:=λ{d:Nat} {k:K}=>z2o (d+3) k
 clear z2o
 have V2:=V1.fresh f2
 have hL2:Row G2 (bQ O vp) vL 2 m.aa.length (iw (m.aa.map (·.g))):=(o1.toRow (O:=bQ O vp) S.lt).fresh f2
 have hM2:Row G2 (bQ O vp) vM 2 c.aa.length (iw (c.aa.map (·.g))):=o2.toRow (O:=bQ O vp) V1.vp.lt
 have sL:=λ{id:Nat} {f:Nat->R}=>hL2.sn (id:=id) (f:=f)
 have sM:=λ{id:Nat} {f:Nat->R}=>hM2.sn (id:=id) (f:=f)
 rw [hml]at hL2 sL
 have nk:nn k:=by unfold nn;omega
 have nc:nn c.aa.length:=by unfold nn;omega
 have ck:k<9223372036854775808:=by omega
 have cc:c.aa.length<9223372036854775808:=by omega
 have hgt:¬ c.aa.length<k:=by omega
 obtain ⟨_,G',⟨V',hL',hM'⟩,z⟩:=bA (c:=Ej) (fuel:=fuel) (ph:=λd=>aN cp t fuel (d+5)) (σ:=Unit) (n:=k)
  (I:=λi _ G=>Uv H G dp vp a n A O m vl vs vi p c v/\Row G (bQ O vp) vL 2 k (iw (m.aa.map (·.g)))/\Row G (bQ O vp) vM 2 c.aa.length (iw (c.aa.map (·.g))))
  (S:=λi _ e=>ae s000 e = .ptr vp 0/\ae s001 e = .ptr p 0/\ae s005 e=vL/\ae s006 e=vM/\ae s007 e = .int 3 i) (λi _ G hik ⟨W,hL,hM⟩=>by
   have hic:i<c.aa.length:=by omega
   have him:i<m.aa.length:=by omega
   have hsi:m.aa[i]? = some m.aa[i]:=YA him
   have hci:=gm hic
   have hcti:(yY c k).aa[i]? = some (c.aa.getD i tI):=by show (c.aa.take k)[i]? = _;rw [Yu,if_pos hik];exact hci
   obtain ⟨hg1,-,hv1⟩:=g.sn i _ _ hsi hcti
   have hgi:(m.aa.map (·.g))[i]? = some (jE c i):=by rw [Yg,hsi];exact congrArg some hg1
   have hgi':(c.aa.map (·.g))[i]? = some (jE c i):=by rw [Yg,hci];rfl
   have hfr:jI m (jE c i)=(i,0):=(g.find _).trans (aad G0 hic hik)
   have hcf:=aab G0 hic
   have ci:i<9223372036854775808:=by omega
   have ni:nn i:=by unfold nn;omega
   have i1:(i+1)%18446744073709551616=i+1:=by omega
   obtain ⟨bL,oL,cL,zL,hvL,hbL,hnL,hrL⟩:=hL.open hik
   obtain ⟨bM,oM,cM,zM,hvM,hbM,hnM,hrM⟩:=hM.open hic
   rw [po hgi]at hrL
   rw [po hgi']at hrM
   have hrL0:=λ{id:Nat} {k:List V->R}=>(hrL (G:=G) rfl).1 (id:=id) (k:=k)
   obtain ⟨G1,x,y1o,s1,S1,-,ox⟩:=Lp (cp:=cp) (fuel:=fuel) (g:=jE c i) T hc W.vp hlp hfu
   have y1:=λ{d:Nat} {k:K}=>y1o d k
   clear y1o
   have ox:=ox i _ hfr hsi
   have V1:=W.step hd s1 S1
   have hL1:=hL.cG s1
   have hM1:=hM.cG s1
   have hrM1:=λ{id:Nat} {k:List V->R}=>(hrM (G:=G1) (s1.same bM hbM hnM).1).1 (id:=id) (k:=k)
   obtain ⟨G2,y,y2o,f2,-,oy⟩:=Jv (cp:=cp) (fuel:=fuel) (g:=jE c i) T V1.ch hfu
   have y2:=λ{d:Nat} {k:K}=>y2o (d+1) k
   clear y2o
   have oy:=oy i _ hcf hci
   have V2:=V1.fresh f2
   have hL2:=hL1.fresh f2
   have hM2:=hM1.fresh f2
   rw [hfr]at y1
   rw [hcf]at y2
   have hrL2:=λ{id:Nat} {k:List V->R}=>(hrL (G:=G2) ((f2.same bL (YD hbL s1.n)).trans (s1.same bL hbL hnL).1)).1 (id:=id) (k:=k)
   have hrM2:=λ{id:Nat} {k:List V->R}=>(hrM (G:=G2) ((f2.same bM (YD hbM s1.n)).trans (s1.same bM hbM hnM).1)).1 (id:=id) (k:=k)
   have hv8:(c.aa.getD i tI).iT.length=8:=C.ok.v8 _ (YS hci)
   have hm8:m.aa[i].cF.length=8:=hil _ (List.getElem_mem him)
   have rx:Row G2 (λ_=>False) x 1 (c.aa.getD i tI).iT.length ((c.aa.getD i tI).iT.map sv):=by
    have:=(ox.toRow (O:=λ_=>False) λb h=>h.elim).fresh f2
    rw [hm8]at this
    rw [hv8,<- hv1,List.map_map]
    exact this
   have ry:Row G2 (λ_=>False) y 1 (c.aa.getD i tI).iT.length ((c.aa.getD i tI).iT.map sv):=by
    have:=oy.toRow (O:=λ_=>False) λb h=>h.elim
    rw [hs,YV (by omega)]at this
    rw [hv8]
    exact this
   have lx:=λ{id:Nat} {f:Nat->R}=>rx.sn (id:=id) (f:=f)
   have ly:=λ{id:Nat} {f:Nat->R}=>ry.sn (id:=id) (f:=f)
   rw [hv8]at lx ly
   have n8:nn 8:=by unfold nn;omega
   have eq1:=λ{id:Nat} {f:Bool->R}=>xD (id:=id) (f:=f) (rfl:jE c i=jE c i)
   refine ⟨(),G2,⟨V2,hL2,hM2⟩,λd kx r e z ⟨q0,q1,q5,q6,q7⟩ hk=>?_⟩
   rw [ak]
   simp only [aS]at y1 y2 hrL0 hrM1 hrL2 hrM2
   rw [hvL]at q5
   rw [hvM]at q6
   generalize hLL:jQ Ej fuel (aN cp t fuel (d+5)) kx r=LL at hk ⊢
   simp only [go_sem,ZE,↓Cl,Ej,q0,q1,q5,q6,q7,hik,hic,nk,ni,ci,ck,↓hrL0,↓y1,↓hrM1,↓y2,↓hrL2,↓hrM2,bh,↓eq1,↓lx,↓ly]
   refine Pe (v0:=.ptr vp 0) (v1:=.ptr p 0) (v5:=vL) (v6:=vM) (v7:=.int 3 i) rx ry (by omega) hfu _ _ _ _ ?_ ?_ ?_ ?_ ?_ ?_ ?_ ?_ λe' q0 q1 q5 q6 q7=>?_
   all_goals first|(simp only [go_sem,q0,q1,q5,q6,q7,hvL,hvM];done)|skip
   subst hLL
   simp only [go_sem,q7,i1]
   exact hk _ (by simp only [go_sem,q0,q1,q5,q6,and_self])) k 0 () G2 (by omega) ⟨V2,hL2,hM2⟩
 refine ⟨G',λd q=>?_,V'⟩
 rw [aJ T.k34 rfl rfl]
 simp only [go_sem,c34,XR,XT,XU,↓z1,↓z2,↓sL,↓sM,nk,nc,ck,cc,hgt]
 refine z d _ fuel _ _ (by omega) ⟨?_,?_,?_,?_,?_⟩ λr e' ⟨q0,q1,q5,q6,q7⟩=>?_
 all_goals first|(simp only [go_sem];done)|skip
 rw [ak]
 simp only [go_sem,Ej,XV,XW,q5,q7,↓sL,ck,nk,QE]
end Go.Ev
end
section
namespace Go.Ev
open Go.Proofs
section
variable {t:Nat->Option cP} {fuel:Nat} {H:Heap} {pk:List UInt8->List (List UInt8)} {unpk:List (List UInt8)->Option (List UInt8)}
theorem GN {cp:RC->ah} (T:aA t) (hc:aY t) (F:cD pk unpk) (hp:t 102=some (.nat (gI pk))) (hu:t 119=some (.nat (ev unpk))) (hw:H.wf) (hfu:1000000<fuel):
 ∃ H' A a k us dp vp O' vl vs vi,(∀ (d:Nat) (k:K),aj (aN (aP Tryz.prog) t fuel (d+10)) (.func 64 []) [.int 3 8] H k=k (.cH [.ptr dp 0,.ptr vp 0]) H')/\af H H'/\VP H' dp vp a k A O' (mz 8) vl vs vi/\VI pk A a k us (mz 8) c0/\A.aZ=0/\A.len=500/\(∀ b,bQ O' vp b->H.n<=b)/\∀ X:Nat->Prop,(∀ b,X b->b<H.n)->ku H' (λb=>X b\/bQ O' vp b) (mz 8) vl vs vi:=by
 obtain ⟨G1,dp,O1,z1o,D1,f1,o1⟩:=VD (cp:=aP Tryz.prog) (fuel:=fuel) (n:=500) (r:=500) (T.jh hc) hw (by omega) (by omega) (by unfold nn;omega)
 obtain ⟨G2,A1,O2,z2o,f2,D2,own1,⟨a,k,us,J⟩,q1,q2,q3,hT⟩:=Dl (cp:=aP Tryz.prog) T hc F hp (b:=8) (by omega) (by omega) (YB 500) (by omega) (YB 8) f1 D1 o1 hfu
 have I1:VI pk A1 a k us (mz 8) c0:=⟨J,by omega,by omega,by omega,yd 8,Sx (by omega) (by omega),Sy (by omega),hT,rfl,Sw _⟩
 obtain ⟨H',O',A,vp,vl,vs,vi,z3o,s2,S,hv,I,g1,g2,-,hM⟩:=HF (cp:=aP Tryz.prog) T hc F hu D2 I1 q1 hfu
 obtain ⟨f3,own2⟩:=f2.own s2 own1
 have f2n:=f2.n
 have z1:=λ{d:Nat} {k:K}=>z1o d k
 have z2:=λ{d:Nat} {k:K}=>z2o d k
 have z3:=λ{d:Nat} {k:K}=>z3o d k
 refine ⟨H',A,a,k,us,dp,vp,O',vl,vs,vi,λd k=>?_,f3,S,I,g1,g2.trans q2,λb hb=>hb.elim (own2 b) λe=>by rw [e];exact Yr f2.n hv,λX hX=>hM X λb hb=>YD (hX b hb) f2n⟩
 rw [aJ T.k32 rfl rfl]
 simp only [go_sem,c32,XJ,XK,↓z1,↓z2]
 simp only [go_sem,XL,XM,XN,XO,↓z3]
end
theorem xA:∀ {cs:List Wr} {i:Nat},(bC cs).drop (i*2)=bC (cs.drop i)
 | cs,0=>rfl
 | [],i+1=>by simp [bC]
 | c :: cs,i+1=>by
  rw [Yv,<- xA (cs:=cs),mA,show (i+1)*2=i*2+1+1 by omega,Yv,Yv]
theorem xB:∀ {cs:List Wr} {i:Nat},(bC cs).take (i*2)=bC (cs.take i)
 | cs,0=>by simp [bC]
 | [],i+1=>by simp [bC]
 | c :: cs,i+1=>by
  rw [WD,mA,mA,<- xB (cs:=cs),show (i+1)*2=i*2+1+1 by omega,WD,WD]
section
variable {cp:RC->ah} {t:Nat->Option cP} {fuel:Nat} {H:Heap} {pk:List UInt8->List (List UInt8)}
variable {dp vp a n p k i:Nat} {A:AD} {O:Nat->Prop} {m:MT} {vl vs vi v:V} {c:CH} {us:List Wr}
def nxV (c:CH) (k i:Nat) (v':V):V:=if k<c.aa.length then .cH [.agg (aT (gB c k) (jE c k) i (gU c k).length v'),.bool true] else .cH [.agg (aT (0,0) (0,0) 0 0 .az),.bool false]
theorem AO (T:aA t) (S:VP H dp vp a n A O m vl vs vi) (C:jK H p c v) (g:CG c) (W:FS pk A a n us m c k i) (hfu:1000<fuel):
 ∃ H' v',(∀ (d:Nat) (q:K),aj (aN cp t fuel (d+5)) (.func 66 []) [.ptr vp 0,.ptr p 0] H q=q (nxV c k i v') H')/\af H H'/\(k<c.aa.length->Own H H' v' 2 (jJ c k i).length (bC (jJ c k i))):=by
 have w0:=S.fC.wf
 have hk:=W.hk
 have hcn:=C.ok.n
 have hml:m.aa.length=k:=by rw [W.vi.ag.len];show (c.aa.take k).length=k;rw [WI];omega
 obtain ⟨lg1,lg2⟩:=W.last
 obtain ⟨G1,hG1,f1,p1,n1⟩:=Heap.aO w0 (.cells (aT (0,0) (0,0) 0 0 .az))
 have w1:=f1.wf
 obtain ⟨G2,z2o,f2⟩:=zU (cp:=cp) (fuel:=fuel) T (S.fresh f1) hfu
 have z2:=λ{d:Nat} {k:K}=>z2o (d+1) k
 clear z2o
 rw [hml,lg1]at z2
 have w2:=f2.wf
 have m2:=f2.n
 obtain ⟨G3,hG3,f3,p3,n3⟩:=Heap.aO w2 (.cells [.int 7 0,.int 7 0])
 have w3:=f3.wf
 obtain ⟨G4,hG4,f4,p4,n4⟩:=Heap.aO w3 (.cells [.int 7 0,.int 7 0])
 have w4:=f4.wf
 have q4:G4.get G2.n = .cells [.int 7 0,.int 7 0]:=(f4.same _ (by omega)).trans p3
 have b4:G2.n<G4.n:=by omega
 obtain ⟨G5,hG5,f5,p5,n5,w5,k5⟩:=Heap.aU (b:=G2.n) (f3.trans f4) (YB _) b4 (.cells (aS (gB c k)))
 have q5:G5.get G3.n = .cells [.int 7 0,.int 7 0]:=(k5 _ (by omega)).trans p4
 have b5:G3.n<G5.n:=by omega
 obtain ⟨G6,hG6,f6,p6,n6,w6,k6⟩:=Heap.aU (b:=G3.n) f5 (by omega) b5 (.cells (aS m.tok.t))
 have p56:=(k6 G2.n (by omega)).trans p5
 have f06:=f1.trans (f2.trans f6)
 have C6:=C.fresh f06
 obtain ⟨G7,vM,z7o,f7,o7⟩:=oQ (cp:=cp) (fuel:=fuel) T C6 hfu
 have z7:=λ{d:Nat} {k:K}=>z7o (d+2) k
 clear z7o
 have m7:=f7.n
 have hM7:Row G7 (λ_=>False) vM 2 c.aa.length (iw (c.aa.map (·.g))):=o7.toRow λb h=>h.elim
 have sM:=λ{id:Nat} {f:Nat->R}=>hM7.sn (id:=id) (f:=f)
 have C7:=C6.fresh f7
 have nk:nn k:=by unfold nn;omega
 have nc:nn c.aa.length:=by unfold nn;omega
 have cc:c.aa.length<9223372036854775808:=by omega
 have ck:k<9223372036854775808:=by omega
 have f07:=f06.trans f7
 have gR7:G7.get H.n = .cells (aT (0,0) (0,0) 0 0 .az):=((f2.trans (f6.trans f7)).same _ (by omega)).trans p1
 have bR7:H.n<G7.n:=by have:=f6.n;omega
 by_cases hkc:k<c.aa.length
 .obtain ⟨c1,c2,c3,c4⟩:=tD g hkc
  have hgc:¬ c.aa.length<=k:=by omega
  have w7:=f7.wf
  obtain ⟨G8,vC,z8o,f8,-,o8⟩:=zk (cp:=cp) (fuel:=fuel) (i:=k) T C7 nk hfu
  have z8:=λ{d:Nat} {k:K}=>z8o (d+2) k
  clear z8o
  rw [if_pos hkc]at z8
  have o8:Own G7 G8 vC 2 (gU c k).length (bC (gU c k)):=o8 _ (gm hkc)
  have m8:=f8.n
  have w8:=f8.wf
  have wm:G8.mark.wf:=by rw [Heap.dm];exact w8
  obtain ⟨Gm,G9,y1o,hu1,hl1,f9⟩:=pG (cp:=cp) (fuel:=fuel) (uF (cp:=cp) (fuel:=fuel) (a:=0) (b:=0) T wm)
  have y1:=λ{d:Nat} {k:K}=>y1o (d+3) k
  clear y1o
  have hM8:=(hM7.fresh f8).fresh f9
  have hgi:(c.aa.map (·.g))[k]? = some (jE c k):=by rw [Yg,gm hkc];rfl
  obtain ⟨bM,oM,cM,zM,hvM,hbM,-,hrM⟩:=hM8.open hkc
  rw [po hgi]at hrM
  have hrM9:=λ{id:Nat} {k:List V->R}=>(hrM (G:=G9) rfl).1 (id:=id) (k:=k)
  have gT8:G8.get G3.n = .cells (aS m.tok.t):=((f7.trans f8).same _ (by omega)).trans p6
  have gT9:G9.get G3.n = .cells (aS m.tok.t):=(f9.same _ (by omega)).trans gT8
  have gL9:G9.get G2.n = .cells (aS (gB c k)):=((f7.trans (f8.trans f9)).same _ (by omega)).trans p56
  have f79:=f8.trans f9
  have o9:=o8.fresh f9
  have hi:=W.i8 hkc
  have hcut:xa (ef (jE c k) (gB c k)) (gU c k).length m.tok.next=0:=by
   unfold xa
   rw [g.up k hkc,if_neg]
   rintro (h|h)
   .cases h
   .rcases W.tok with ⟨h0,h1⟩|⟨-,-,h3,-,-,h4,-⟩
    .rw [h1]at h
     have:Bf.next=0:=rfl
     omega
    .omega
  have hnx:m.tok.next=i:=by
   rcases W.tok with ⟨h0,h1⟩|⟨-,-,h3,-,-,h4,-⟩
   .rw [h1,h0];rfl
   .exact h4
  rw [hnx]at hcut z2
  obtain ⟨Ga,v',zao,fa,oa⟩:=Q9 (cp:=cp) (fuel:=fuel) (nb:=8) (from':=i) T f9.wf o9 (by omega) c1 (by omega) (Md g hk) c4 (by unfold nn;omega) hfu
  have za:=λ{d:Nat} {k:K}=>zao d k
  clear zao
  have oa:=oa hcut
  rw [hcut,if_pos rfl]at za
  have hpl:=sN (c:=c) (k:=k) (i:=i)
  have e1:min (gU c k).length (i+2)-i=(jJ c k i).length:=by omega
  have e2:((bC (gU c k)).drop (i*2)).take ((jJ c k i).length*2)=bC (jJ c k i):=by
   rw [xA,xB]
   congr 1
   rw [hpl]
   unfold jJ
   rcases Yh ((gU c k).length-i) 2 with h|h
   .rw [show min 2 ((gU c k).length-i)=(gU c k).length-i by omega,YV (by rw [WM];exact YB _),YV (by rw [WM];omega)]
   .rw [show min 2 ((gU c k).length-i)=2 by omega]
  rw [e1,e2]at oa
  have wa:=fa.wf
  have ma:=fa.n
  have m9:=f9.n
  obtain ⟨Gb,hGb,fb,pb,nb⟩:=Heap.aO wa (.cells (aT (0,0) (0,0) 0 0 .az))
  have wb:=fb.wf
  have bb:Ga.n<Gb.n:=by omega
  obtain ⟨Gc,hGc,fc,pc,nc',wc,kc⟩:=Heap.aU (b:=Ga.n) fb (YB _) bb (.cells (aT (gB c k) (jE c k) i (gU c k).length v'))
  have f7c:=f79.trans (fa.trans fc)
  have gRc:Gc.get H.n = .cells (aT (0,0) (0,0) 0 0 .az):=(f7c.same _ bR7).trans gR7
  have bRc:H.n<Gc.n:=YD bR7 f7c.n
  obtain ⟨Gz,hGd,fd,pd,nd,wd,kd⟩:=Heap.aU (b:=H.n) (f07.trans f7c) (YB _) bRc (.cells (aT (gB c k) (jE c k) i (gU c k).length v'))
  have m7':G7.n<=G9.n:=f79.n
  have od:Own H Gz v' 2 (jJ c k i).length (bC (jJ c k i)):=by
   have:=(oa.fresh fc).sub (H:=H) (by omega)
   rw [<- hGd]
   exact this.mK wc bRc (oa.off (by omega))
  have j':=λ{id:Nat} {k:R}=>aI oa.one (id:=id) (k:=k)
  have n0:nn 0:=by unfold nn;omega
  have ni:nn i:=by unfold nn;omega
  refine ⟨Gz,v',λd q=>?_,fd,λ_=>od⟩
  unfold nxV
  rw [if_pos hkc,aJ T.k33 rfl rfl]
  have st7:∀ (e:Env),ae s004 e = .ptr H.n 0->ae s015 e = .ptr Ga.n 0->ae s014 e = .int 3 0->eR zZ fuel (aN cp t fuel (d+4)) e Gc (mL [.gD s004 7,.tmp s005] q) (λn e H=>if n=0 then mL [.gD s004 7,.tmp s005] q e H else no 6)=q (.cH [.agg (aT (gB c k) (jE c k) i (gU c k).length v'),.bool true]) Gz:=λe q4 q15 q14=>by
   simp only [aT]at pc gRc hGd pd ⊢
   simp only [go_sem,zZ,XQ,q4,q15,q14,pc,gRc,wc,bRc,↓j',hGd,pd,↓iV]
  have st6:∀ (KN:KE) (KX:Nat->KE) (e:Env) (z:R),ae s004 e = .ptr H.n 0->ae s006 e = .int 3 k->ae s007 e = .ptr G2.n 0->ae s011 e = .int 3 i->ae s012 e=vM->ae s013 e=vC->
   (∀ e',ae s004 e' = .ptr H.n 0->ae s015 e' = .ptr Ga.n 0->ae s014 e' = .int 3 0->eR zZ fuel (aN cp t fuel (d+4)) e' Gc KN KX=z)->eR uv fuel (aN cp t fuel (d+4)) e G9 KN KX=z:=λKN KX e z q4 q6 q7 q11 q12 q13 hk=>by
   have c0:uv = .seq uv.fst zZ:=rfl
   rw [c0]
   generalize hT:zZ=T7 at hk ⊢
   simp only [ah.fst,uv]
   clear hT
   rw [hvM]at q12
   simp only [aS]at gL9 hrM9 za
   simp only [aT]at hGb pb hGc za
   simp only [go_sem,q6,q7,q11,q12,q13,gL9,hkc,ck,↓hrM9,↓za,wa,hGb,pb,bb,wb,↓j',hGc]
   exact hk _ q4 rfl rfl
  have st5:∀ (KN:KE) (KX:Nat->KE) (e:Env) (z:R),ae s004 e = .ptr H.n 0->ae s006 e = .int 3 k->ae s007 e = .ptr G2.n 0->ae s010 e = .ptr G3.n 0->ae s011 e = .int 3 i->ae s012 e=vM->ae s013 e=vC->ae s014 e = .int 3 0->
   (∀ e',ae s004 e' = .ptr H.n 0->ae s006 e' = .int 3 k->ae s007 e' = .ptr G2.n 0->ae s011 e' = .int 3 i->ae s012 e'=vM->ae s013 e'=vC->eR uv fuel (aN cp t fuel (d+4)) e' G9 KN KX=z)->eR zW fuel (aN cp t fuel (d+4)) e G8 KN KX=z:=λKN KX e z q4 q6 q7 q10 q11 q12 q13 q14 hk=>by
   have c0:zW = .seq zW.fst uv:=rfl
   rw [c0]
   generalize hT:uv=T6 at hk ⊢
   simp only [ah.fst,zW]
   clear hT
   have ff:∀ e',ae s004 e' = .ptr H.n 0->ae s006 e' = .int 3 k->ae s007 e' = .ptr G2.n 0->ae s011 e' = .int 3 i->ae s012 e'=vM->ae s013 e'=vC->eR T6 fuel (aN cp t fuel (d+4)) e' G9 KN KX=z:=hk
   simp only [aS]at gT8 gT9 hrM9
   rw [qi,qi,FD,FG 7]
   simp only [WD,List.take_zero,Yv,List.drop_zero]
   generalize hD:[_,_,_,_,_,_,_,_]=D
   rcases W.tok with ⟨h0,h1⟩|⟨-,-,h3,-,h5,h4,-⟩
   .have e1:=λ{id:Nat} {f:Bool->R}=>xD (id:=id) (f:=f) (show m.tok.t=((0,0):Gd) by rw [h1];rfl)
    simp only [go_sem,q10,q14,gT8,↓y1,hu1,hl1,bh,↓e1]
    subst hD
    simp only [go_sem]
    exact ff _ q4 q6 q7 q11 q12 q13
   .have e1:=λ{id:Nat} {f:Bool->R}=>JG (id:=id) (f:=f) (show ¬ m.tok.t=((0,0):Gd) by rw [h5];exact F6 g hkc)
    have e2:=λ{id:Nat} {f:Bool->R}=>xD (id:=id) (f:=f) h5
    simp only [go_sem,q10,q14,gT8,↓y1,hu1,hl1,bh,↓e1]
    subst hD
    rw [hvM]at q12
    simp only [go_sem,q4,q6,q10,q12,gT9,hkc,ck,↓hrM9,bh,↓e2]
    exact ff _ q4 q6 q7 q11 (by simp only [go_sem,q12,hvM]) q13
  simp only [aT]at hG1
  simp only [aS]at z2 hG5 hG6
  generalize hR5:zW=R5
  simp only [go_sem,c33,Px,Py,Pz,XP,w0,hG1,↓z2,w2,hG3,w3,hG4,w4,q4,b4,hG5,q5,w5,b5,hG6,↓z7,↓sM,nk,nc,cc,hgc,↓z8]
  subst hR5
  refine st5 _ _ _ _ ?_ ?_ ?_ ?_ ?_ ?_ ?_ ?_ λe1 q4 q6 q7 q11 q12 q13=>?_
  all_goals first|(simp only [go_sem];done)|skip
  refine st6 _ _ _ _ q4 q6 q7 q11 q12 q13 λe2 q4 q15 q14=>?_
  exact st7 _ q4 q15 q14
 .have hgc:c.aa.length<=k:=by omega
  obtain ⟨G8,hG8,f8,p8,n8,w8,k8⟩:=Heap.aU (b:=H.n) f07 (YB _) bR7 (.cells (aT (0,0) (0,0) 0 0 .az))
  refine ⟨G8,.az,λd q=>?_,f8,λh=>absurd h hkc⟩
  unfold nxV
  rw [if_neg hkc,aJ T.k33 rfl rfl]
  simp only [aT]at hG1 gR7 hG8 p8 ⊢
  simp only [aS]at z2 hG5 hG6
  have w7:=f7.wf
  simp only [go_sem,c33,Px,Py,Pz,w0,hG1,↓z2,w2,hG3,w3,hG4,w4,q4,b4,hG5,q5,w5,b5,hG6,↓z7,↓sM,nk,nc,cc,hgc,gR7,w7,bR7,hG8,p8,↓iV]
end
end Go.Ev
end
section
namespace Go.Ev
open Go.Proofs
variable {t:Nat->Option cP} {fuel:Nat} {H:Heap} {pk:List UInt8->List (List UInt8)} {unpk:List (List UInt8)->Option (List UInt8)}
variable {dp vp p a n k i:Nat} {X:Nat->Prop} {A:AD} {O:Nat->Prop} {m:MT} {vl vs vi v:V} {c c0:CH} {us:List Wr}
theorem Ky {cp:RC->ah} {X:Nat->Prop} (T:aA t) (hc:aY t) (F:cD pk unpk) (hu:t 119=some (.nat (ev unpk))) (P:PD H X dp vp p A O m vl vs vi false c v) (I:VI pk A a n us m c0) (hf:A.aZ=0) (hfu:1000000<fuel):
 ∃ H' O' A' vp' vl' vs' vi',(∀ (d:Nat) (k:K),aj (aN cp t fuel (d+9)) (.func 18 []) [.ptr dp 0] H k=k (.cH [.ptr vp' 0,.int 3 0]) H')/\PD H' X dp vp' p A' O' m vl' vs' vi' false c v/\VI pk A' a n us m c0/\A'.aZ=0/\A'.len=A.len/\(∀ q,dE A' q=dE A q)/\Step H O H' O'/\H.n<=vp':=by
 obtain ⟨r1,r2,r3,r4,r5,r6⟩:=I.jd.recovered hf
 have hT:MK (A.recover n us).1 (pk (bj (nB m))):=⟨λi h=>by rw [AD.read,r6];exact I.rJ.at_ i h⟩
 obtain ⟨H',O',vp',vl',vs',vi',z,s,D,g,hn,ho,hv,hM,hX⟩:=yS T hc F hu P.fC I.jd.HB r1 r2.off (by rw [r4];exact I.lo) (by rw [r4];exact I.hi) (by rw [r4,I.l8];exact I.ok) I.Kl hT hfu
 have hd:=λb hb h=>P.U8 b hb (YG h)
 refine ⟨H',O',_,vp',vl',vs',vi',z,⟨D,g,hn,ho,hX _ λb hb=>hb.elim (P.xn b) (P.ch.lt b),(P.ch.cG s hd).1,λb hb h=>?_,λb hb=>YD (P.xn b hb) s.n,P.xc,λb hb h=>?_⟩,⟨r2,by rw [r4];exact I.lo,by rw [r4];exact I.hi,by rw [r4,r5];exact I.room,I.l8,by rw [r4];exact I.ok,I.Kl,hT,I.s8,I.agree λl _ q _=>ua r6 q⟩,r3,r4,λq=>ua r6 q,s,hv⟩
 .have hbn:=P.ch.lt b hb
  rcases h with h|h
  .exact (s.same b hbn (hd b hb)).2 h
  omega
 .have hbn:=P.xn b hb
  rcases h with h|h
  .exact (s.same b hbn λh=>P.xo b hb (YG h)).2 h
  omega
theorem FS.abg {A':AD} (W:FS pk A a n us m c k i) (I:VI pk A' a n us m (yY c k)) (h1:A'.aZ=0) (h2:A'.len=A.len) (h3:∀ q,dE A' q=dE A q):FS pk A' a n us m c k i:=
 ⟨I,h1,h2.trans W.l5,W.hk,W.tok.imp id λ⟨q1,q2,q3,q4,q5,q6,q7,q8⟩=>⟨q1,q2,q3,q4,q5,q6,q7,by rw [<- q8];exact List.map_congr_left λq _=>h3 q⟩⟩
theorem FS.ml (W:FS pk A a n us m c k i):m.aa.length=k:=by
 rw [W.vi.ag.len];show (c.aa.take k).length=k;rw [WI];have:=W.hk;omega
theorem Ir (T:aA t) (hc:aY t) (F:cD pk unpk) (hp:t 102=some (.nat (gI pk))) (P:PD H X dp vp p A O m vl vs vi false c v) (W:FS pk A a n us m c k i) (g:CG c) (hk:k<c.aa.length) {vx:V} (hX:Row H (bQ O vp) vx 2 (jJ c k i).length (bC (jJ c k i))) (hfu:1000000<fuel):
 ∃ H' A' O' m' vl' vs' vi' k' i' a' n' us',(∀ (d:Nat) (q:K),aj (aN (aP Tryz.prog) t fuel (d+10)) (.func 46 []) [.ptr vp 0,.agg (aT (gB c k) (jE c k) i (gU c k).length vx)] H q=q (.int 3 0) H')/\PD H' X dp vp p A' O' m' vl' vs' vi' false c v/\Step H (PQ vp p O v) H' (PQ vp p O' v)/\FS pk A' a' n' us' m' c k' i'/\9*k+i+2<=9*k'+i':=by
 have S:=P.vpo W.vi
 have pt:=Tc g hk (W.i8 hk)
 obtain ⟨G,f,zo⟩:=Bd (cp:=aP Tryz.prog) (fuel:=fuel) T S W.vi.l8 hX pt (by omega)
 have hml:=W.ml
 have hn8:=g.n8
 have hl:=sN (c:=c) (k:=k) (i:=i)
 obtain ⟨o,k',i',ho,he,hch,hm,-,a',n',us',W'⟩:=W.take F g hk
 have Z:=W.st g hk
 obtain ⟨s1,s2,s3⟩:=W.stl g hk
 obtain ⟨H',O',z2o,D⟩:=TL (y:=.az) T hc F hp (S.fresh f) W.vi.ok W.vi.l8 Z (Md g W.hk) rfl (hX.fresh f) (by omega) s1 (by omega) hfu
 rw [ho]at z2o D
 have eE:o.E pk A a=0:=by unfold zQ.E;rw [if_neg (by omega),hch]
 have eA:o.A1 pk A a=(sh pk A a o.m1 o.bw).1:=by unfold zQ.A1;rw [if_neg (by omega)]
 have eM:o.M pk A a m=o.m1:=by unfold zQ.M Ur;rw [if_neg (by omega),if_pos hch]
 have eL:o.L pk A a=false:=by unfold zQ.L chL;rw [if_neg (by omega),hch];simp
 rw [eA,eM,eL]at D
 rw [eE]at z2o
 have P1:=P.fresh f
 obtain ⟨vl',vs',vi',P',s'⟩:=P1.vop D
 refine ⟨H',_,O',_,vl',vs',vi',k',i',a',n',us',λd q=>?_,P',f.step.trans s',W',hm⟩
 rw [zo d q,if_pos (W.ask g hk)]
 exact z2o d q
theorem Xp (T:aA t) (P:PD H X dp vp p A O m vl vs vi false c v) (W:FS pk A a n us m c k i) (g:CG c) (G0:SG c c.aa.length) {j q:Nat} (hj:j<c.aa.length) (hq:q<(gU c j).length\/q=0) (hne:¬ (j=k/\q=i)) {vx:V} (hX:Row H (bQ O vp) vx 2 (jJ c j q).length (bC (jJ c j q))) (hfu:1000<fuel):
 ∃ H' E,(∀ (d:Nat) (r:K),aj (aN (aP Tryz.prog) t fuel (d+10)) (.func 46 []) [.ptr vp 0,.agg (aT (gB c j) (jE c j) q (gU c j).length vx)] H r=r (.int 3 E) H')/\af H H':=by
 have S:=P.vpo W.vi
 obtain ⟨G,f,zo⟩:=Bd (cp:=aP Tryz.prog) (fuel:=fuel) T S W.vi.l8 hX (Tc g hj hq) hfu
 refine ⟨G,Ut m (gB c j) (jE c j) q (gU c j).length,λd r=>?_,f⟩
 rw [zo d r,if_neg (W.ads g hj hq hne G0.inj)]
end Go.Ev
end
section
namespace Go.Ev
open Go.Proofs
def qN (c:CH) (l:List (Nat × Nat × V)):List V:=l.flatMap λq=>aT (gB c q.1) (jE c q.1) q.2.1 (gU c q.1).length q.2.2
theorem Np {c:CH}:∀ l,(qN c l).length=l.length*7
 | []=>rfl
 | q :: l=>by
  show (_ ++ qN c l).length=_
  rw [YC,Np l]
  simp only [aT,YH,YO]
  omega
theorem Nn {c:CH} (l l':List (Nat × Nat × V)):qN c (l ++ l')=qN c l ++ qN c l':=List.flatMap_append
theorem FA {c:CH}:∀ {l:List (Nat × Nat × V)} {i:Nat} {q:Nat × Nat × V},l[i]? = some q->((qN c l).drop (i*7)).take 7=aT (gB c q.1) (jE c q.1) q.2.1 (gU c q.1).length q.2.2
 | [],i,q,h=>by simp at h
 | x :: l,0,q,h=>by
  simp at h
  subst h
  rfl
 | x :: l,i+1,q,h=>by
  have:=FA (c:=c) (l:=l) (i:=i) (q:=q) (by simpa using h)
  rw [show (i+1)*7=i*7+7 by omega]
  exact this
theorem Own.same {G G':Heap} {s:V} {sz n:Nat} {row:List V} (h:Own hZ G s sz n row) (hb:∀ b,CB s b->G'.get b=G.get b) (hn:G.n<=G'.n):Own hZ G' s sz n row:=by
 obtain ⟨h1,h2,h|⟨b,c,z,rest,e,hg,hc,h0,hl⟩⟩:=h
 .exact ⟨h1,h2,YG h⟩
 .exact ⟨h1,h2,YE ⟨b,c,z,rest,e,(hb b ⟨_,_,_,_,e⟩).trans hg,hc,h0,YD hl hn⟩⟩
def XS (s:V) (Y:Nat->Prop):Nat->Prop:=λb=>CB s b\/Y b
def MW (Y:Nat->Prop) (vp p:Nat) (O:Nat->Prop) (v s:V):Nat->Prop:=λb=>XS s Y b\/PQ vp p O v b
structure LD (pk:List UInt8->List (List UInt8)) (c:CH) (p:Nat) (v:V) (H G:Heap) (dp vp:Nat) (s:V) (l:List (Nat × Nat × V)) (Y:Nat->Prop) (A:AD) (O:Nat->Prop) (m:MT) (vl vs vi:V) (a n:Nat) (us:List Wr) (k q:Nat):Prop where
 pd:PD G (XS s Y) dp vp p A O m vl vs vi false c v
 fs:FS pk A a n us m c k q
 st:Own hZ G s 7 l.length (qN c l)
 rows:∀ x ∈ l,x.1<c.aa.length/\(x.2.1<(gU c x.1).length\/x.2.1=0)/\Row G (MW Y vp p O v s) x.2.2 2 (jJ c x.1 x.2.1).length (bC (jJ c x.1 x.2.1))
 fr:af H G
 own:∀ b,PQ vp p O v b->H.n<=b
 cb:∀ b,CB s b->H.n<=b
section
variable {pk:List UInt8->List (List UInt8)} {c:CH} {p:Nat} {v:V} {H G G':Heap} {dp vp vp':Nat} {s:V} {l:List (Nat × Nat × V)} {Y:Nat->Prop} {A A':AD} {O O':Nat->Prop} {m m':MT} {vl vs vi vl' vs' vi':V} {a n a' n':Nat} {us us':List Wr} {k q k' q':Nat}
theorem LD.nx (h:LD pk c p v H G dp vp s l Y A O m vl vs vi a n us k q):∀ b,XS s Y b->¬ PQ vp p O v b:=λb hb h'=>h'.elim (h.pd.xc b hb) (h.pd.xo b hb)
theorem LD.fresh (h:LD pk c p v H G dp vp s l Y A O m vl vs vi a n us k q) (f:af G G'):LD pk c p v H G' dp vp s l Y A O m vl vs vi a n us k q:=
 ⟨h.pd.fresh f,h.fs,h.st.fresh f,λx hx=>let ⟨a,b,r⟩:=h.rows x hx; ⟨a,b,r.fresh f⟩,h.fr.trans f,h.own,h.cb⟩
theorem LD.step (h:LD pk c p v H G dp vp s l Y A O m vl vs vi a n us k q) (P':PD G' (XS s Y) dp vp' p A' O' m' vl' vs' vi' false c v) (W':FS pk A' a' n' us' m' c k' q') (t:Step G (PQ vp p O v) G' (PQ vp' p O' v)):
 LD pk c p v H G' dp vp' s l Y A' O' m' vl' vs' vi' a' n' us' k' q'/\∀ b,Y b->G'.get b=G.get b:=by
 obtain ⟨fr',own'⟩:=h.fr.own t h.own
 have same:∀ b,XS s Y b->G'.get b=G.get b:=λb hb=>(t.same b (h.pd.xn b hb) (h.nx b hb)).1
 refine ⟨⟨P',W',h.st.same (λb hb=>same b (YG hb)) t.n,λx hx=>?_,fr',own',h.cb⟩,λb hb=>same b (YE hb)⟩
 obtain ⟨e1,e2,r⟩:=h.rows x hx
 exact ⟨e1,e2,r.Sd t λb hb ho=>⟨λh'=>ho (YE h'),λh'=>h'.elim (λh'=>ho (YG h')) (t.same b hb λh''=>ho (YE h'')).2⟩⟩
theorem LD.more (h:LD pk c p v H G dp vp s l (λ_=>False) A O m vl vs vi a n us k q) (f:af G G') {pc:Nat} (h1:G.n<=pc) (h2:pc<G'.n):LD pk c p v H G' dp vp s l (λb=>b=pc) A O m vl vs vi a n us k q:=by
 have g:=h.fresh f
 have e:∀ b,b<G.n->XS s (λb=>b=pc) b->XS s (λ_=>False) b:=λb hb h'=>h'.imp id λe=>by omega
 refine ⟨⟨g.pd.fC,g.pd.get,g.pd.vn,g.pd.vo,(h.pd.sI.jX λb hb h'=>h'.imp_left λh'=>h'.imp_left (e b hb)).fresh f,g.pd.ch,g.pd.U8,λb hb=>hb.elim (λh'=>g.pd.xn b (YG h')) λe=>by rw [e];exact h2,λb hb h'=>hb.elim (λh''=>g.pd.xc b (YG h'') h') λe=>by have:=h.pd.ch.lt b h';omega,λb hb h'=>hb.elim (λh''=>g.pd.xo b (YG h'') h') λe=>by have:=h.pd.wlt b h';omega⟩,g.fs,g.st,λx hx=>?_,g.fr,g.own,g.cb⟩
 obtain ⟨e1,e2,r⟩:=h.rows x hx
 exact ⟨e1,e2,(r.jX λb hb h'=>h'.imp_left (e b hb)).fresh f⟩
theorem LD.less {Z:Nat->Prop} (h:LD pk c p v H G dp vp s l Y A O m vl vs vi a n us k q) (hz:∀ b,Z b->Y b):LD pk c p v H G dp vp s l Z A O m vl vs vi a n us k q:=
 ⟨h.pd.less λb hb=>hb.imp id (hz b),h.fs,h.st,λx hx=>let ⟨a,b,r⟩:=h.rows x hx; ⟨a,b,r.jX λb _ h'=>h'.imp_left λh'=>h'.imp id (hz b)⟩,h.fr,h.own,h.cb⟩
theorem LD.put {pc:Nat} {y:eK} (h:LD pk c p v H G dp vp s l (λb=>b=pc) A O m vl vs vi a n us k q) (hpc:H.n<=pc) (ho:¬ CB s pc):LD pk c p v H (G.put pc y) dp vp s l (λb=>b=pc) A O m vl vs vi a n us k q:=by
 have w:=h.pd.fC.wf
 have hx:XS s (λb=>b=pc) pc:=YE rfl
 have hn:=h.pd.xn pc hx
 have t:Step G (λb=>b=pc) (G.put pc y) (λb=>b=pc):=Step.fB w hn
 refine ⟨?_,h.fs,h.st.same (λb hb=>by rw [Heap.aE w hn,if_neg (λe=>ho (by rw [<- e];exact hb))]) t.n,λx hx=>?_,h.fr.put hpc hn,h.own,h.cb⟩
 .refine h.pd.cG t (λb hb h'=>h.nx pc hx (by rw [<- hb];exact h')) ?_
  have h1:ku G (λb=>((XS s (λb=>b=pc) b\/CQ p v b)\/bQ O vp b)\/b=pc) m vl vs vi:=h.pd.sI.jX λb _ h'=>h'.elim id λe=>YG (YG (YE e))
  exact (h1.cG (t.or (O:=λb=>(XS s (λb=>b=pc) b\/CQ p v b)\/bQ O vp b))).jX λb _ h'=>YG h'
 .obtain ⟨e1,e2,r⟩:=h.rows x hx
  exact ⟨e1,e2,r.Sd t λb _ ho=>⟨λe=>ho (YG (YE e)),ho⟩⟩
theorem LD.app (h:LD pk c p v H G dp vp s l Y A O m vl vs vi a n us k q) {B:Nat} {x:Nat × Nat × V} (hgB:G.get B = .cells (aT (gB c x.1) (jE c x.1) x.2.1 (gU c x.1).length x.2.2)) (hx:x.1<c.aa.length/\(x.2.1<(gU c x.1).length\/x.2.1=0)/\Row G (MW Y vp p O v s) x.2.2 2 (jJ c x.1 x.2.1).length (bC (jJ c x.1 x.2.1))) (ho:x.2.2.one=true) (hl:l.length<1000) (hy:∀ b,Y b->b<G.n) (hyc:∀ b,Y b->¬ CB s b):
 ∃ s' G',(∀ {id:Nat} {ph:cU} {e:Env} {kk:K} {a y:Arg},ay a e=s->ay y e = .slice B 0 1 2 0->aL (.app false 7 a y) id ph e G kk=kk s' G')/\LD pk c p v H G' dp vp s' (l ++ [x]) Y A O m vl vs vi a n us k q/\∀ b,Y b->G'.get b=G.get b/\¬ CB s' b:=by
 have w:=h.pd.fC.wf
 obtain ⟨s',G',hap,o',w',k',n',of',lo'⟩:=Own.Y1 (w:=s) (x:=.slice B 0 1 2 0) (m:=1) w h.st (λ{id f}=>iN hgB rfl) rfl (by
  intro z hz
  simp only [aT,Yb,Wa,or_false]at hz
  rcases hz with rfl|rfl|rfl|rfl|rfl|rfl|rfl<;>first|rfl|exact ho) (by omega)
 have t:Step G (CB s) G' (CB s'):=⟨w',n',λb hb hc=>⟨k' b hb (yi.2 hc),yi.1 (of' b hb (yi.2 hc))⟩,λlo h1 h2 h3=>lo' lo h1 h2 h3⟩
 have hyc:∀ b,Y b->¬ CB s b:=hyc
 have xn':∀ b,XS s' Y b->b<G'.n:=λb hb=>hb.elim (λh1=>(o'.cb h1).2) λh1=>YD (hy b h1) n'
 have old:∀ b,b<G.n->XS s' Y b->XS s Y b:=λb hb h1=>h1.imp (λh2=>Classical.byContradiction λh3=>(t.same b hb h3).2 h2) id
 have hxP:∀ b,XS s' Y b->¬ PQ vp p O v b:=λb hb hp=>h.nx b (old b (h.pd.lt b hp) hb) hp
 have P':PD G' (XS s' Y) dp vp p A O m vl vs vi false c v:=by
  have hq:∀ b,CB s b->¬ PQ vp p O v b:=λb hb=>h.nx b (YG hb)
  have k0:ku G (λb=>((Y b\/CQ p v b)\/bQ O vp b)\/CB s b) m vl vs vi:=h.pd.sI.jX λb _ h1=>by
   rcases h1 with ((h1|h1)|h1)|h1
   .exact YG (YG (YE h1))
   .exact YG (YE h1)
   .exact YE h1
   .exact YG (YG (YG h1))
  have k1:ku G' (λb=>((Y b\/CQ p v b)\/bQ O vp b)\/CB s' b) m vl vs vi:=k0.cG (t.or (O:=λb=>(Y b\/CQ p v b)\/bQ O vp b))
  have k2:ku G' (λb=>(XS s' Y b\/CQ p v b)\/bQ O vp b) m vl vs vi:=k1.jX λb _ h1=>by
   rcases h1 with ((h1|h1)|h1)|h1
   .exact YE h1
   .exact YG (YG (YG h1))
   .exact YG (YG (YE h1))
   .exact YG (YE h1)
  have P1:=(h.pd.less (Y:=λ_=>False) λb hb=>hb.elim).cG t hq (k2.jX λb _ h1=>h1.imp_left λh1=>h1.elim (λh1=>h1.elim) YE)
  exact ⟨P1.fC,P1.get,P1.vn,P1.vo,k2,P1.ch,P1.U8,xn',λb hb hc=>hxP b hb (YG hc),λb hb hc=>hxP b hb (YE hc)⟩
 have rw':∀ {u:V} {nn':Nat} {row:List V},Row G (MW Y vp p O v s) u 2 nn' row->Row G' (MW Y vp p O v s') u 2 nn' row:=λ{u nn' row} r=>r.Sd t λb hb hm=>⟨λh1=>hm (YG (YG h1)),λh1=>h1.elim (λh1=>hm (YG (old b hb h1))) λh1=>hm (YE h1)⟩
 obtain ⟨fr',cb'⟩:=h.fr.own t h.cb
 refine ⟨s',G',hap,⟨P',h.fs,?_,λz hz=>?_,fr',h.own,cb'⟩,λb hb=>t.same b (hy b hb) (hyc b hb)⟩
 .have:(l ++ [x]).length=l.length+1:=by rw [YC];rfl
  rw [this,Nn]
  have e:qN c [x]=aT (gB c x.1) (jE c x.1) x.2.1 (gU c x.1).length x.2.2:=by simp [qN]
  rw [e]
  exact o'
 .rcases Yn.1 hz with hz|hz
  .obtain ⟨e1,e2,r⟩:=h.rows z hz
   exact ⟨e1,e2,rw' r⟩
  .rw [YU.1 hz]
   exact ⟨hx.1,hx.2.1,rw' hx.2.2⟩
end
end Go.Ev
end
section
namespace Go.Ev
open Go.Proofs
def ah.OP:ah->ah
 | .block _ a=>a
 | c=>c
noncomputable def jB:ah:=lf.snd.fst.OP
noncomputable def vQ:ah:=jB.snd.snd.snd
noncomputable def IN:ah:=vQ.snd
noncomputable def OQ:ah:=IN.snd
noncomputable def jT2:ah:=OQ.snd
noncomputable def jAL:ah:=jT2.snd
theorem jC0:lf = .seq lf.fst (.seq (.block 1 (.seq jB.fst (.seq jB.snd.fst (.seq jB.snd.snd.fst vQ)))) lf.snd.snd):=rfl
theorem jC1:vQ = .seq vQ.fst IN:=rfl
theorem jC2:IN = .seq IN.fst OQ:=rfl
theorem jC3:OQ = .seq OQ.fst jT2:=rfl
theorem jC4:jT2 = .seq jT2.fst jAL:=rfl
def LE (pk:List UInt8->List (List UInt8)) (c:CH) (p:Nat) (v:V) (H G:Heap) (dp vp:Nat) (s:V) (l:List (Nat × Nat × V)) (Y:Nat->Prop) (W:Nat->Nat->Prop):Prop:=
 ∃ A O m vl vs vi a n us k q,LD pk c p v H G dp vp s l Y A O m vl vs vi a n us k q/\W k q
def Wt (c:CH) (w:Nat):Nat->Nat->Prop:=λk q=>w+2<=9*k+q\/(w<=9*k+q/\k<c.aa.length)
structure ML (H:Heap) (ov:V) (os:List Nat):Prop where
 row:Row H (λ_=>False) ov 1 os.length (os.map (V.int 4))
 len:os.length<9223372036854775808
 lt:∀ x ∈ os,x<256
section
variable {t:Nat->Option cP} {fuel:Nat} {H G:Heap} {pk:List UInt8->List (List UInt8)} {unpk:List (List UInt8)->Option (List UInt8)}
variable {c:CH} {p dp vp w i pc:Nat} {v s ov:V} {l:List (Nat × Nat × V)} {Y:Nat->Prop} {os:List Nat}
theorem aeY (T:aA t) (hc:aY t) (F:cD pk unpk) (hp:t 102=some (.nat (gI pk))) (g:CG c) (G0:SG c c.aa.length) (ho:ML H ov os) (hi:i<60) (hl0:l≠[]) (hl1:l.length<1000) (h:LE pk c p v H G dp vp s l Y (Wt c w)) (hfu:1000000<fuel):
 ∃ G',LE pk c p v H G' dp vp s l Y (Wt c w)/\(∀ b,Y b->G'.get b=G.get b)/\∀ (d:Nat) (KN:KE) (KX:Nat->KE) (e:Env) (z:R),ae s001 e=ov->ae s005 e = .ptr p 0->ae s006 e = .ptr dp 0->ae s007 e = .ptr vp 0->ae s010 e=s->ae s011 e = .int 3 i->ae s012 e = .ptr pc 0->
  (∀ e',ae s001 e'=ov->ae s005 e' = .ptr p 0->ae s006 e' = .ptr dp 0->ae s007 e' = .ptr vp 0->ae s010 e'=s->ae s011 e' = .int 3 i->ae s012 e' = .ptr pc 0->eR IN fuel (aN (aP Tryz.prog) t fuel (d+10)) e' G' KN KX=z)->eR vQ fuel (aN (aP Tryz.prog) t fuel (d+10)) e G KN KX=z:=by
 obtain ⟨A,O,m,vl,vs,vi,a,n,us,k,q,D,hw⟩:=h
 have hn:=ho.len
 have nl:nn os.length:=hn
 have row:=ho.row.fresh D.fr
 have sn:=λ{id:Nat} {f:Nat->R}=>row.sn (id:=id) (f:=f)
 have ci:i<9223372036854775808:=by omega
 have ni:nn i:=by unfold nn;omega
 by_cases hio:i<os.length
 .obtain ⟨y,hy⟩:∃ y,y=os[i]:=⟨_,rfl⟩
  have hyi:os[i]? = some y:=by rw [hy];exact YA hio
  have y256:=ho.lt _ (YS hyi)
  obtain ⟨bL,oL,cL,zL,hvL,hbL,-,hrL⟩:=row.open hio
  have hrL:=λ{id:Nat} {k:V->R}=>(hrL (G:=G) rfl).2 (x:=.int 4 y) (by rw [WS,Yg,hyi];rfl) (id:=id) (k:=k)
  rw [WS]at hrL
  have rm3:∀ {id:Nat} {f:Nat->R},kE id (.rem 256) y 3 f=f (y%3):=λ{id f}=>sd (by omega) (by omega) (by omega)
  by_cases h3:y%3=0
  .have hlp:0<l.length:=List.length_pos_iff.2 hl0
   have rml:∀ {id:Nat} {f:Nat->R},kE id (.rem 9223372036854775808) y l.length f=f (y%l.length):=λ{id f}=>sd (by omega) (by omega) (by omega)
   have hji:y%l.length<l.length:=QG _ hlp
   obtain ⟨x,hx⟩:∃ x,x=l[y%l.length]:=⟨_,rfl⟩
   have hxi:l[y%l.length]? = some x:=by rw [hx];exact YA hji
   obtain ⟨x1,x2,xr⟩:=D.rows x (YS hxi)
   have sr:Row G (λ_=>False) s 7 l.length (qN c l):=D.st.toRow λb h=>h.elim
   have ss:=λ{id:Nat} {f:Nat->R}=>sr.sn (id:=id) (f:=f)
   obtain ⟨bS,oS,cS,zS,hvS,hbS,-,hrS⟩:=sr.open hji
   rw [FA hxi]at hrS
   have hrS:=λ{id:Nat} {k:List V->R}=>(hrS (G:=G) rfl).1 (id:=id) (k:=k)
   have nj:nn (y%l.length):=by unfold nn;omega
   have cj:y%l.length<9223372036854775808:=by omega
   have nls:nn l.length:=by unfold nn;omega
   have cl:l.length<9223372036854775808:=by omega
   have ym:y%18446744073709551616=y:=by omega
   have hxr:Row G (bQ O vp) x.2.2 2 (jJ c x.1 x.2.1).length (bC (jJ c x.1 x.2.1)):=xr.jX λb _ h=>YE (YE h)
   have fin:∀ (G':Heap) (E:Nat),(∀ (d:Nat) (r:K),aj (aN (aP Tryz.prog) t fuel (d+10)) (.func 46 []) [.ptr vp 0,.agg (aT (gB c x.1) (jE c x.1) x.2.1 (gU c x.1).length x.2.2)] G r=r (.int 3 E) G')->∀ (d:Nat) (KN:KE) (KX:Nat->KE) (e:Env) (z:R),ae s001 e=ov->ae s005 e = .ptr p 0->ae s006 e = .ptr dp 0->ae s007 e = .ptr vp 0->ae s010 e=s->ae s011 e = .int 3 i->ae s012 e = .ptr pc 0->
    (∀ e',ae s001 e'=ov->ae s005 e' = .ptr p 0->ae s006 e' = .ptr dp 0->ae s007 e' = .ptr vp 0->ae s010 e'=s->ae s011 e' = .int 3 i->ae s012 e' = .ptr pc 0->eR IN fuel (aN (aP Tryz.prog) t fuel (d+10)) e' G' KN KX=z)->eR vQ fuel (aN (aP Tryz.prog) t fuel (d+10)) e G KN KX=z:=λG' E zo d KN KX e z q1 q5 q6 q7 q10 q11 q12 hk=>by
    have zT:=λ{d:Nat} {r:K}=>zo d r
    rw [jC1]
    generalize hT:IN=T1 at hk ⊢
    simp only [ah.fst,ah.snd,ah.OP,vQ,jB,lf]
    clear hT
    simp only [aT]at hrS zT
    rw [hvL]at q1 sn
    rw [hvS]at q10 ss
    simp only [go_sem,q1,q7,q10,q11,↓sn,hn,nl,ci,ni,hio,↓hrL,↓rm3,h3,ym,↓ss,cl,↓rml,cj,hji,↓hrS,↓zT]
    exact hk _ (by simp only [go_sem,q1,hvL]) q5 q6 q7 (by simp only [go_sem,q10,hvS]) q11 q12
   by_cases hxe:x.1=k/\x.2.1=q
   .obtain ⟨q1,q2⟩:=hxe
    rw [q1]at x1
    obtain ⟨G',A',O',m',vl',vs',vi',k',i',a',n',us',zo,P',t',W',hm⟩:=Ir (vx:=x.2.2) T hc F hp D.pd D.fs g x1 (by rw [<- q1,<- q2];exact hxr) hfu
    obtain ⟨D',hY⟩:=D.step P' W' t'
    have hw':Wt c w k' i':=YG (by unfold Wt at hw;omega)
    exact ⟨G',⟨_,_,_,_,_,_,_,_,_,_,_,D',hw'⟩,hY,fin G' 0 (by rw [q1,q2];exact zo)⟩
   .obtain ⟨G',E,zo,f⟩:=Xp (fuel:=fuel) (vx:=x.2.2) T D.pd D.fs g G0 x1 x2 hxe hxr (by omega)
    exact ⟨G',⟨_,_,_,_,_,_,_,_,_,_,_,D.fresh f,hw⟩,λb hb=>f.same b (D.pd.xn b (YE hb)),fin G' E zo⟩
  .refine ⟨G,⟨_,_,_,_,_,_,_,_,_,_,_,D,hw⟩,λ_ _=>rfl,λd KN KX e z q1 q5 q6 q7 q10 q11 q12 hk=>?_⟩
   rw [jC1]
   generalize hT:IN=T1 at hk ⊢
   simp only [ah.fst,ah.snd,ah.OP,vQ,jB,lf]
   clear hT
   rw [hvL]at q1 sn
   simp only [go_sem,q1,q11,↓sn,hn,nl,ci,ni,hio,↓hrL,↓rm3,h3]
   exact hk _ (by simp only [go_sem,q1,hvL]) q5 q6 q7 q10 q11 q12
 .refine ⟨G,⟨_,_,_,_,_,_,_,_,_,_,_,D,hw⟩,λ_ _=>rfl,λd KN KX e z q1 q5 q6 q7 q10 q11 q12 hk=>?_⟩
  rw [jC1]
  generalize hT:IN=T1 at hk ⊢
  simp only [ah.fst,ah.snd,ah.OP,vQ,jB,lf]
  clear hT
  simp only [go_sem,q1,q11,↓sn,hn,nl,ni,hio]
  exact hk _ q1 q5 q6 q7 q10 q11 q12
end
end Go.Ev
end
section
namespace Go.Ev
open Go.Proofs
theorem Step.agi {H H':Heap} {O O':Nat->Prop} {vp vp' p:Nat} {v:V} (s:Step H O H' O') (h:H.n<=vp'):Step H (PQ vp p O v) H' (PQ vp' p O' v):=by
 refine ⟨s.wf,s.n,λb hb ho=>⟨(s.same b hb λh=>ho (YE (YG h))).1,?_⟩,λlo h1 h2 h3=>?_⟩
 .rintro (h'|h'|h')
  .exact ho (YG h')
  .exact (s.same b hb λh=>ho (YE (YG h))).2 h'
  .omega
 .obtain ⟨e1,e2⟩:=s.lo lo h1 h2 λb hb=>h3 b (YE (YG hb))
  refine ⟨e1,?_⟩
  rintro b (h'|h'|h')
  .exact h3 b (YG h')
  .exact e2 b h'
  .omega
section
variable {t:Nat->Option cP} {fuel:Nat} {H G:Heap} {pk:List UInt8->List (List UInt8)} {unpk:List (List UInt8)->Option (List UInt8)}
variable {c:CH} {p dp vp w i pc:Nat} {v s ov:V} {l:List (Nat × Nat × V)} {Y:Nat->Prop} {os:List Nat} {W:Nat->Nat->Prop}
theorem aeX (T:aA t) (hc:aY t) (F:cD pk unpk) (hu:t 119=some (.nat (ev unpk))) (ho:ML H ov os) (hi:i<60) (h:LE pk c p v H G dp vp s l Y W) (hfu:1000000<fuel):
 ∃ G' vp',LE pk c p v H G' dp vp' s l Y W/\(∀ b,Y b->G'.get b=G.get b)/\∀ (d:Nat) (KN:KE) (KX:Nat->KE) (e:Env) (z:R),ae s001 e=ov->ae s005 e = .ptr p 0->ae s006 e = .ptr dp 0->ae s007 e = .ptr vp 0->ae s010 e=s->ae s011 e = .int 3 i->ae s012 e = .ptr pc 0->
  (∀ e',ae s001 e'=ov->ae s005 e' = .ptr p 0->ae s006 e' = .ptr dp 0->ae s007 e' = .ptr vp' 0->ae s010 e'=s->ae s011 e' = .int 3 i->ae s012 e' = .ptr pc 0->eR OQ fuel (aN (aP Tryz.prog) t fuel (d+10)) e' G' KN KX=z)->eR IN fuel (aN (aP Tryz.prog) t fuel (d+10)) e G KN KX=z:=by
 obtain ⟨A,O,m,vl,vs,vi,a,n,us,k,q,D,hw⟩:=h
 have hn:=ho.len
 have nl:nn os.length:=hn
 have row:=ho.row.fresh D.fr
 have sn:=λ{id:Nat} {f:Nat->R}=>row.sn (id:=id) (f:=f)
 have ci:i<9223372036854775808:=by omega
 have ni:nn i:=by unfold nn;omega
 by_cases hio:i<os.length
 .obtain ⟨y,hy⟩:∃ y,y=os[i]:=⟨_,rfl⟩
  have hyi:os[i]? = some y:=by rw [hy];exact YA hio
  have y256:=ho.lt _ (YS hyi)
  obtain ⟨bL,oL,cL,zL,hvL,hbL,-,hrL⟩:=row.open hio
  have hrL:=λ{id:Nat} {k:V->R}=>(hrL (G:=G) rfl).2 (x:=.int 4 y) (by rw [WS,Yg,hyi];rfl) (id:=id) (k:=k)
  rw [WS]at hrL
  have rm5:∀ {id:Nat} {f:Nat->R},kE id (.rem 256) y 5 f=f (y%5):=λ{id f}=>sd (by omega) (by omega) (by omega)
  by_cases h5:y%5=0
  .obtain ⟨G',O',A',vp',vl',vs',vi',zo,P',I',g1,g2,g3,s',hv⟩:=Ky (cp:=aP Tryz.prog) T hc F hu D.pd D.fs.vi D.fs.aZ hfu
   obtain ⟨D',hY⟩:=D.step P' (D.fs.abg I' g1 g2 g3) (s'.agi hv)
   refine ⟨G',vp',⟨_,_,_,_,_,_,_,_,_,_,_,D',hw⟩,hY,λd KN KX e z q1 q5 q6 q7 q10 q11 q12 hk=>?_⟩
   have z1:=λ{k:K}=>zo (d+1) k
   rw [jC2]
   generalize hT:OQ=T1 at hk ⊢
   simp only [ah.fst,ah.snd,ah.OP,IN,vQ,jB,lf]
   clear hT
   rw [hvL]at q1 sn
   simp only [go_sem,q1,q6,q11,↓sn,hn,nl,ci,ni,hio,↓hrL,↓rm5,h5,↓z1]
   exact hk _ (by simp only [go_sem,q1,hvL]) q5 q6 rfl q10 q11 q12
  .refine ⟨G,vp,⟨_,_,_,_,_,_,_,_,_,_,_,D,hw⟩,λ_ _=>rfl,λd KN KX e z q1 q5 q6 q7 q10 q11 q12 hk=>?_⟩
   rw [jC2]
   generalize hT:OQ=T1 at hk ⊢
   simp only [ah.fst,ah.snd,ah.OP,IN,vQ,jB,lf]
   clear hT
   rw [hvL]at q1 sn
   simp only [go_sem,q1,q11,↓sn,hn,nl,ci,ni,hio,↓hrL,↓rm5,h5]
   exact hk _ (by simp only [go_sem,q1,hvL]) q5 q6 q7 q10 q11 q12
 .refine ⟨G,vp,⟨_,_,_,_,_,_,_,_,_,_,_,D,hw⟩,λ_ _=>rfl,λd KN KX e z q1 q5 q6 q7 q10 q11 q12 hk=>?_⟩
  rw [jC2]
  generalize hT:OQ=T1 at hk ⊢
  simp only [ah.fst,ah.snd,ah.OP,IN,vQ,jB,lf]
  clear hT
  simp only [go_sem,q1,q11,↓sn,hn,nl,ni,hio]
  exact hk _ q1 q5 q6 q7 q10 q11 q12
theorem GI {cp:RC->ah} {H:Heap} {A:AD} {O:Nat->Prop} {m:MT} {vl vs vi:V} {a n:Nat} {us:List Wr} {k q:Nat} (T:aA t) (hc:aY t) (g:CG c) (G0:SG c c.aa.length) (h:LD pk c p v H G dp vp s l Y A O m vl vs vi a n us k q) (hfu:1000<fuel):
 ∃ G',(∀ (d:Nat) (r:K),aj (aN cp t fuel (d+6)) (.func 68 []) [.ptr vp 0,.ptr p 0] G r=r (.bool true) G')/\LD pk c p v H G' dp vp s l Y A O m vl vs vi a n us k q/\∀ b,Y b->G'.get b=G.get b:=by
 have I:=h.fs.vi
 obtain ⟨G',z,V'⟩:=I9 (cp:=cp) (fuel:=fuel) T hc (h.pd.vpo I) h.pd.ch h.pd.U8 G0.s8 G0 h.fs.hk I.ag (λs hs q hq=>by have:=(I.ok.aa.mem hs).pl q hq;have:=I.lo;omega) (λs hs=>by rw [(I.ok.aa.mem hs).len]) hfu
 have P':PD G' (XS s Y) dp vp p A O m vl vs vi false c v:=⟨V'.vp.fC,V'.vp.get,V'.vp.vn,V'.vp.vo,h.pd.sI.cG V'.st.or,V'.ch,h.pd.U8,λb hb=>YD (h.pd.xn b hb) V'.st.n,h.pd.xc,h.pd.xo⟩
 exact ⟨G',z,h.step P' h.fs V'.st.or⟩
theorem aeV (T:aA t) (hc:aY t) (g:CG c) (G0:SG c c.aa.length) (h:LE pk c p v H G dp vp s l Y W) (hfu:1000000<fuel):
 ∃ G',LE pk c p v H G' dp vp s l Y W/\∀ (d:Nat) (KN:KE) (KX:Nat->KE) (e:Env) (z:R),ae s001 e=ov->ae s005 e = .ptr p 0->ae s006 e = .ptr dp 0->ae s007 e = .ptr vp 0->ae s010 e=s->ae s011 e = .int 3 i->
  (∀ e',ae s001 e'=ov->ae s005 e' = .ptr p 0->ae s006 e' = .ptr dp 0->ae s007 e' = .ptr vp 0->ae s010 e'=s->ae s011 e' = .int 3 i->KN e' G'=z)->eR jAL fuel (aN (aP Tryz.prog) t fuel (d+10)) e G KN KX=z:=by
 obtain ⟨A,O,m,vl,vs,vi,a,n,us,k,q,D,hw⟩:=h
 obtain ⟨G',zo,D',-⟩:=GI (cp:=aP Tryz.prog) (fuel:=fuel) T hc g G0 D (by omega)
 refine ⟨G',⟨_,_,_,_,_,_,_,_,_,_,_,D',hw⟩,λd KN KX e z q1 q5 q6 q7 q10 q11 hk=>?_⟩
 have z1:=λ{k:K}=>zo (d+4) k
 simp only [ah.fst,ah.snd,ah.OP,jAL,jT2,OQ,IN,vQ,jB,lf]
 simp only [go_sem,q5,q7,↓z1]
 exact hk _ q1 q5 q6 q7 q10 q11
end
end Go.Ev
end
section
namespace Go.Ev
open Go.Proofs
section
variable {t:Nat->Option cP} {fuel:Nat} {H G:Heap} {pk:List UInt8->List (List UInt8)} {unpk:List (List UInt8)->Option (List UInt8)}
variable {c:CH} {p dp vp w i pc:Nat} {v s ov:V} {l:List (Nat × Nat × V)} {Y:Nat->Prop} {os:List Nat} {W:Nat->Nat->Prop}
theorem aeW (T:aA t) (hc:aY t) (F:cD pk unpk) (hp:t 102=some (.nat (gI pk))) (g:CG c) (h:LE pk c p v H G dp vp s l (λb=>b=pc) (Wt c w)) (hG:∃ b t q n v',G.get pc = .cells (aT b t q n v')) (hpc:H.n<=pc) (hsc:¬ CB s pc) (hfu:1000000<fuel):
 ∃ G',LE pk c p v H G' dp vp s l (λ_=>False) (λk q=>w+2<=9*k+q)/\∀ (d:Nat) (KN:KE) (KX:Nat->KE) (e:Env) (z:R),ae s001 e=ov->ae s005 e = .ptr p 0->ae s006 e = .ptr dp 0->ae s007 e = .ptr vp 0->ae s010 e=s->ae s011 e = .int 3 i->ae s012 e = .ptr pc 0->
  (∀ e',ae s001 e'=ov->ae s005 e' = .ptr p 0->ae s006 e' = .ptr dp 0->ae s007 e' = .ptr vp 0->ae s010 e'=s->ae s011 e' = .int 3 i->eR jAL fuel (aN (aP Tryz.prog) t fuel (d+10)) e' G' KN KX=z)->eR OQ fuel (aN (aP Tryz.prog) t fuel (d+10)) e G KN KX=z:=by
 obtain ⟨A,O,m,vl,vs,vi,a,n,us,k,q,D,hw⟩:=h
 obtain ⟨b0,t0,q0,n0,v0,hG⟩:=hG
 have S:=D.pd.vpo D.fs.vi
 have bpc:pc<G.n:=D.pd.xn pc (YE rfl)
 obtain ⟨G1,v',zo,f1,own⟩:=AO (cp:=aP Tryz.prog) (fuel:=fuel) T S D.pd.ch g D.fs (by omega)
 have D1:=D.fresh f1
 have w1:=f1.wf
 have bp1:pc<G1.n:=YD bpc f1.n
 have gp1:=(f1.same pc bpc).trans hG
 by_cases hk:k<c.aa.length
 .have D2:=D1.put (y:=.cells (aT (gB c k) (jE c k) q (gU c k).length v')) hpc hsc
  have o1:=own hk
  have j':=λ{id:Nat} {k:R}=>aI o1.one (id:=id) (k:=k)
  have o2:=o1.mK (x:=.cells (aT (gB c k) (jE c k) q (gU c k).length v')) w1 bp1 (o1.off bpc)
  have g2:(G1.put pc (.cells (aT (gB c k) (jE c k) q (gU c k).length v'))).get pc = .cells (aT (gB c k) (jE c k) q (gU c k).length v'):=by rw [Heap.aE w1 bp1,if_pos rfl]
  have m2:pc<(G1.put pc (.cells (aT (gB c k) (jE c k) q (gU c k).length v'))).n:=by rw [Heap.aR];exact bp1
  generalize hG2:G1.put pc (.cells (aT (gB c k) (jE c k) q (gU c k).length v'))=G2 at D2 o2 g2 m2
  have w2:=D2.pd.fC.wf
  obtain ⟨G',A',O',m',vl',vs',vi',k',i',a',n',us',yo,P',t',W',hm⟩:=Ir (fuel:=fuel) (vx:=v') T hc F hp D2.pd D2.fs g hk (o2.toRow S.lt) hfu
  obtain ⟨D',-⟩:=D2.step P' W' t'
  refine ⟨G',⟨_,_,_,_,_,_,_,_,_,_,_,D'.less λb hb=>hb.elim,by unfold Wt at hw;omega⟩,λd KN KX e z q1 q5 q6 q7 q10 q11 q12 hk'=>?_⟩
  have z1:=λ{r:K}=>zo (d+5) r
  have y1:=λ{r:K}=>yo d r
  unfold nxV at z1
  rw [if_pos hk]at z1
  rw [jC3,jC4]
  generalize hT:jAL=T1 at hk' ⊢
  simp only [ah.fst,ah.snd,ah.OP,jT2,OQ,IN,vQ,jB,lf]
  clear hT
  simp only [aT]at gp1 hG2 g2 z1 y1
  simp only [go_sem,q5,q7,q12,↓z1,gp1,bp1,w1,↓j',hG2,g2,↓y1]
  exact hk' _ q1 q5 q6 q7 q10 q11
 .have D2:=D1.put (y:=.cells (aT (0,0) (0,0) 0 0 .az)) hpc hsc
  generalize hG2:G1.put pc (.cells (aT (0,0) (0,0) 0 0 .az))=G2 at D2
  refine ⟨G2,⟨_,_,_,_,_,_,_,_,_,_,_,D2.less λb hb=>hb.elim,by unfold Wt at hw;omega⟩,λd KN KX e z q1 q5 q6 q7 q10 q11 q12 hk'=>?_⟩
  have z1:=λ{r:K}=>zo (d+5) r
  unfold nxV at z1
  rw [if_neg hk]at z1
  rw [jC3,jC4]
  generalize hT:jAL=T1 at hk' ⊢
  simp only [ah.fst,ah.snd,ah.OP,jT2,OQ,IN,vQ,jB,lf]
  clear hT
  simp only [aT]at gp1 hG2 z1
  simp only [go_sem,q5,q7,q12,↓z1,gp1,bp1,w1,hG2]
  exact hk' _ q1 q5 q6 q7 q10 q11
theorem agm (T:aA t) (g:CG c) (h:LE pk c p v H G dp vp s l (λ_=>False) (λk q=>w<=9*k+q)) (hl:l.length<100) (hfu:1000000<fuel):
 (∃ G' s' pc x,LE pk c p v H G' dp vp s' (l ++ [x]) (λb=>b=pc) (Wt c w)/\(∃ b t q n v',G'.get pc = .cells (aT b t q n v'))/\H.n<=pc/\¬ CB s' pc/\∀ (d:Nat) (KN:KE) (KX:Nat->KE) (e:Env) (z:R),ae s001 e=ov->ae s005 e = .ptr p 0->ae s006 e = .ptr dp 0->ae s007 e = .ptr vp 0->ae s010 e=s->ae s011 e = .int 3 i->
  (∀ e',ae s001 e'=ov->ae s005 e' = .ptr p 0->ae s006 e' = .ptr dp 0->ae s007 e' = .ptr vp 0->ae s010 e'=s'->ae s011 e' = .int 3 i->ae s012 e' = .ptr pc 0->eR vQ fuel (aN (aP Tryz.prog) t fuel (d+10)) e' G' KN KX=z)->eR (.seq jB.fst (.seq jB.snd.fst (.seq jB.snd.snd.fst vQ))) fuel (aN (aP Tryz.prog) t fuel (d+10)) e G KN KX=z)\/
 (∃ G',LE pk c p v H G' dp vp s l (λ_=>False) (λk _=>k=c.aa.length)/\∀ (d:Nat) (KN:KE) (KX:Nat->KE) (e:Env) (z:R),ae s005 e = .ptr p 0->ae s007 e = .ptr vp 0->
  (∀ e',ae s005 e' = .ptr p 0->ae s007 e' = .ptr vp 0->KX 1 e' G'=z)->eR (.seq jB.fst (.seq jB.snd.fst (.seq jB.snd.snd.fst vQ))) fuel (aN (aP Tryz.prog) t fuel (d+10)) e G KN KX=z):=by
 obtain ⟨A,O,m,vl,vs,vi,a,n,us,k,q,D,hw⟩:=h
 have S:=D.pd.vpo D.fs.vi
 obtain ⟨G1,v',zo,f1,own⟩:=AO (cp:=aP Tryz.prog) (fuel:=fuel) T S D.pd.ch g D.fs (by omega)
 have w1:=f1.wf
 have D1:=D.fresh f1
 have hpc:H.n<=G1.n:=D1.fr.n
 obtain ⟨G2,hG2,f2,p2,n2⟩:=Heap.aO w1 (.cells (aT (0,0) (0,0) 0 0 .az))
 have w2:=f2.wf
 have b2:G1.n<G2.n:=by omega
 by_cases hk:k<c.aa.length
 .have o1:=own hk
  have j':=λ{id:Nat} {k:R}=>aI o1.one (id:=id) (k:=k)
  obtain ⟨G3,hG3,f3,p3,n3,w3,k3⟩:=Heap.aU (b:=G1.n) f2 (YB _) b2 (.cells (aT (gB c k) (jE c k) q (gU c k).length v'))
  have b3:G1.n<G3.n:=by omega
  have D3:=D1.more (pc:=G1.n) f3 (YB _) b3
  obtain ⟨G4,hG4,f4,p4,n4⟩:=Heap.aO w3 (.cells (aT (gB c k) (jE c k) q (gU c k).length v'))
  have w4:=f4.wf
  have D4:=D3.fresh f4
  have cbn:∀ b,CB s b->b<G.n:=λb hb=>D.pd.xn b (YG hb)
  have r1:Row G1 (MW (λb=>b=G1.n) vp p O v s) v' 2 (jJ c k q).length (bC (jJ c k q)):=
   (o1.toRow (O:=MW (λ_=>False) vp p O v s) λb hb=>hb.elim (λh=>D.pd.xn b h) λh=>D.pd.lt b h).jX λb hb h'=>h'.imp_left λh'=>h'.imp_right λe=>by omega
  obtain ⟨s',G5,hap,D5,hY⟩:=D4.app (B:=G3.n) (x:=(k,q,v')) p4 ⟨hk,D.fs.i8 hk,r1.fresh (f3.trans f4)⟩ o1.one (by omega) (λb hb=>by omega) (λb hb h=>by have:=cbn b h;have:=f1.n;omega)
  obtain ⟨e1,e2⟩:=hY G1.n rfl
  have gp5:G5.get G1.n = .cells (aT (gB c k) (jE c k) q (gU c k).length v'):=(e1.trans (f4.same _ b3)).trans p3
  refine YG ⟨G5,s',G1.n,_,⟨_,_,_,_,_,_,_,_,_,_,_,D5,YE ⟨hw,hk⟩⟩,⟨_,_,_,_,_,gp5⟩,hpc,e2,λd KN KX e z q1 q5 q6 q7 q10 q11 hk'=>?_⟩
  have z1:=λ{r:K}=>zo (d+5) r
  unfold nxV at z1
  rw [if_pos hk]at z1
  generalize hT:vQ=T1 at hk' ⊢
  simp only [ah.fst,ah.snd,ah.OP,jB,lf]
  clear hT
  simp only [aT]at hG2 p2 hG3 p3 hG4 z1
  simp only [go_sem,q5,q7,q10,↓z1,w1,hG2,p2,w2,b2,↓j',hG3,p3,w3,hG4]
  rw [hap rfl rfl]
  exact hk' _ q1 q5 q6 q7 rfl q11 rfl
 .obtain ⟨G3,hG3,f3,p3,n3,w3,k3⟩:=Heap.aU (b:=G1.n) f2 (YB _) b2 (.cells (aT (0,0) (0,0) 0 0 .az))
  refine YE ⟨G3,⟨_,_,_,_,_,_,_,_,_,_,_,D1.fresh f3,by have:=D.fs.hk;omega⟩,λd KN KX e z q5 q7 hk'=>?_⟩
  have z1:=λ{r:K}=>zo (d+5) r
  unfold nxV at z1
  rw [if_neg hk]at z1
  generalize hT:vQ=T1 at hk' ⊢
  simp only [ah.fst,ah.snd,ah.OP,jB,lf]
  clear hT
  simp only [aT]at hG2 hG3 z1 p2
  simp only [go_sem,q5,q7,↓z1,w1,hG2,p2,w2,b2,hG3]
  exact hk' _ q5 q7
end
end Go.Ev
end
section
namespace Go.Ev
open Go.Proofs
section
variable {t:Nat->Option cP} {fuel:Nat} {H G:Heap} {pk:List UInt8->List (List UInt8)} {unpk:List (List UInt8)->Option (List UInt8)}
variable {c:CH} {p dp vp i:Nat} {v s ov:V} {l:List (Nat × Nat × V)} {os:List Nat}
theorem LE.imp {Y:Nat->Prop} {W W':Nat->Nat->Prop} (h:LE pk c p v H G dp vp s l Y W) (f:∀ A a n us m k q,FS pk A a n us m c k q->W k q->W' k q):LE pk c p v H G dp vp s l Y W':=by
 obtain ⟨A,O,m,vl,vs,vi,a,n,us,k,q,D,hw⟩:=h
 exact ⟨_,_,_,_,_,_,_,_,_,_,_,D,f _ _ _ _ _ _ _ D.fs hw⟩
theorem agn (T:aA t) (hc:aY t) (F:cD pk unpk) (hp:t 102=some (.nat (gI pk))) (hu:t 119=some (.nat (ev unpk))) (g:CG c) (G0:SG c c.aa.length) (ho:ML H ov os) (hi:i<60) (hli:l.length=i) (h:LE pk c p v H G dp vp s l (λ_=>False) (λk q=>2*i<=9*k+q)) (hfu:1000000<fuel):
 (∃ G' vp' s' l',(LE pk c p v H G' dp vp' s' l' (λ_=>False) (λk q=>2*(i+1)<=9*k+q)/\l'.length=i+1)/\∀ (d:Nat) (KN:KE) (KX:Nat->KE) (e:Env) (z:R),ae s001 e=ov->ae s005 e = .ptr p 0->ae s006 e = .ptr dp 0->ae s007 e = .ptr vp 0->ae s010 e=s->ae s011 e = .int 3 i->
  (∀ e',ae s001 e'=ov->ae s005 e' = .ptr p 0->ae s006 e' = .ptr dp 0->ae s007 e' = .ptr vp' 0->ae s010 e'=s'->ae s011 e' = .int 3 i->KN e' G'=z)->eR (.seq jB.fst (.seq jB.snd.fst (.seq jB.snd.snd.fst vQ))) fuel (aN (aP Tryz.prog) t fuel (d+10)) e G KN KX=z)\/
 (∃ G',LE pk c p v H G' dp vp s l (λ_=>False) (λk _=>k=c.aa.length)/\∀ (d:Nat) (KN:KE) (KX:Nat->KE) (e:Env) (z:R),ae s005 e = .ptr p 0->ae s007 e = .ptr vp 0->
  (∀ e',ae s005 e' = .ptr p 0->ae s007 e' = .ptr vp 0->KX 1 e' G'=z)->eR (.seq jB.fst (.seq jB.snd.fst (.seq jB.snd.snd.fst vQ))) fuel (aN (aP Tryz.prog) t fuel (d+10)) e G KN KX=z):=by
 rcases agm (ov:=ov) (i:=i) T g h (by omega) hfu with ⟨G1,s',pc,x,h1,hG,hpc,hsc,z1⟩|h2
 .obtain ⟨G2,h2,y2,z2⟩:=aeY (pc:=pc) T hc F hp g G0 ho hi (List.append_ne_nil_of_right_ne_nil _ (List.cons_ne_nil _ _)) (by rw [YC];show l.length+1<1000;omega) h1 hfu
  obtain ⟨G3,vp',h3,y3,z3⟩:=aeX (pc:=pc) T hc F hu ho hi h2 hfu
  obtain ⟨G4,h4,z4⟩:=aeW (ov:=ov) (i:=i) T hc F hp g h3 (by rw [y3 pc rfl,y2 pc rfl];exact hG) hpc hsc hfu
  obtain ⟨G5,h5,z5⟩:=aeV (ov:=ov) (i:=i) T hc g G0 h4 hfu
  refine YG ⟨G5,vp',s',_,⟨h5.imp λA a n us m k q _ h=>by omega,by rw [YC];show l.length+1=_;omega⟩,λd KN KX e z q1 q5 q6 q7 q10 q11 hk=>?_⟩
  refine z1 d KN KX e z q1 q5 q6 q7 q10 q11 λe q1 q5 q6 q7 q10 q11 q12=>?_
  refine z2 d KN KX e z q1 q5 q6 q7 q10 q11 q12 λe q1 q5 q6 q7 q10 q11 q12=>?_
  refine z3 d KN KX e z q1 q5 q6 q7 q10 q11 q12 λe q1 q5 q6 q7 q10 q11 q12=>?_
  refine z4 d KN KX e z q1 q5 q6 q7 q10 q11 q12 λe q1 q5 q6 q7 q10 q11=>?_
  exact z5 d KN KX e z q1 q5 q6 q7 q10 q11 hk
 .exact YE h2
theorem FR (T:aA t) (hc:aY t) (F:cD pk unpk) (hp:t 102=some (.nat (gI pk))) (hu:t 119=some (.nat (ev unpk))) (g:CG c) (G0:SG c c.aa.length) (ho:ML H ov os) (h:LE pk c p v H G dp vp .az [] (λ_=>False) (λ_ _=>True)) (hfu:1000000<fuel):
 ∃ G' vp' s' l',LE pk c p v H G' dp vp' s' l' (λ_=>False) (λk _=>k=c.aa.length)/\∀ (d:Nat) (kx:Nat->KE) (e:Env) (z:R),ae s001 e=ov->ae s005 e = .ptr p 0->ae s006 e = .ptr dp 0->ae s007 e = .ptr vp 0->ae s010 e = .az->ae s011 e = .int 3 0->
  (∀ e',ae s005 e' = .ptr p 0->ae s007 e' = .ptr vp' 0->kx 1 e' G'=z)->jQ lf fuel (aN (aP Tryz.prog) t fuel (d+10)) kx fuel e G=z:=by
 have run:=nw (c:=lf) (fuel:=fuel) (ph:=λd=>aN (aP Tryz.prog) t fuel (d+10)) (σ:=Nat × V × List (Nat × Nat × V)) (τ:=Nat × V × List (Nat × Nat × V)) (n:=60)
  (I:=λi x G=>LE pk c p v H G dp x.1 x.2.1 x.2.2 (λ_=>False) (λk q=>2*i<=9*k+q)/\x.2.2.length=i)
  (S:=λi x e=>ae s001 e=ov/\ae s005 e = .ptr p 0/\ae s006 e = .ptr dp 0/\ae s007 e = .ptr x.1 0/\ae s010 e=x.2.1/\ae s011 e = .int 3 i)
  (J:=λx G=>LE pk c p v H G dp x.1 x.2.1 x.2.2 (λ_=>False) (λk _=>k=c.aa.length))
  (Q:=λx e=>ae s005 e = .ptr p 0/\ae s007 e = .ptr x.1 0) (j:=λ_=>1) (λi x G hi ⟨h,hl⟩=>by
   obtain ⟨vp,s,l⟩:=x
   have ni:nn i:=by unfold nn;omega
   have ci:i<9223372036854775808:=by omega
   have n60:nn 60:=by unfold nn;omega
   have c60:(60:Nat)<9223372036854775808:=by omega
   have i1:(i+1)%18446744073709551616=i+1:=by omega
   rcases agn (ov:=ov) T hc F hp hu g G0 ho hi hl h hfu with ⟨G',vp',s',l',h',z⟩|⟨G',h',z⟩
   .refine YG ⟨(vp',s',l'),G',h',λd kx r e x ⟨q1,q5,q6,q7,q10,q11⟩ hk=>?_⟩
    rw [ak]
    generalize jQ lf fuel (aN (aP Tryz.prog) t fuel (d+10)) kx r=LL at hk ⊢
    rw [jC0]
    have z:=z d
    generalize ah.seq jB.fst (.seq jB.snd.fst (.seq jB.snd.snd.fst vQ))=B0 at z ⊢
    simp only [ah.fst,ah.snd,lf]
    simp only [go_sem,q11,ni,n60,hi]
    refine z _ _ _ _ ?_ ?_ ?_ ?_ ?_ ?_ λe q1 q5 q6 q7 q10 q11=>?_
    all_goals first|(simp only [go_sem,q1,q5,q6,q7,q10,q11];done)|skip
    simp only [go_sem,q11,i1]
    exact hk _ (by simp only [go_sem,q1,q5,q6,q7,q10,and_self])
   .refine YE ⟨(vp,s,l),G',h',λd kx r e x ⟨q1,q5,q6,q7,q10,q11⟩ hk=>?_⟩
    rw [ak]
    generalize jQ lf fuel (aN (aP Tryz.prog) t fuel (d+10)) kx r=LL
    rw [jC0]
    have z:=z d
    generalize ah.seq jB.fst (.seq jB.snd.fst (.seq jB.snd.snd.fst vQ))=B0 at z ⊢
    simp only [ah.fst,ah.snd,lf]
    simp only [go_sem,q11,ni,n60,hi]
    refine z _ _ _ _ ?_ ?_ λe q5 q7=>?_
    all_goals first|(simp only [go_sem,q5,q7];done)|skip
    simp only [go_sem]
    exact hk _ ⟨q5,q7⟩) 60 0 (vp,.az,[]) G (by omega) ⟨h.imp λ_ _ _ _ _ _ _ _ _=>by omega,rfl⟩
 rcases run with ⟨⟨vp',s',l'⟩,G',⟨h',-⟩,z⟩|⟨⟨vp',s',l'⟩,G',h',z⟩
 .exfalso
  obtain ⟨A,O,m,vl,vs,vi,a,n,us,k,q,D,hw⟩:=h'
  have hk:=D.fs.hk
  have h8:=g.n8
  have hq:q<=8:=by
   rcases D.fs.tok with ⟨h,-⟩|⟨h0,h1,h2,-⟩
   .omega
   .have:=(tD g h1).2.1
    omega
  have hw:2*60<=9*k+q:=hw
  omega
 .exact ⟨G',vp',s',l',h',λd kx e x q1 q5 q6 q7 q10 q11 hk=>z d kx fuel e x (by omega) ⟨q1,q5,q6,q7,q10,q11⟩ λe' ⟨q5,q7⟩=>hk e' q5 q7⟩
end
end Go.Ev
end
section
namespace Go.Ev
open Go.Proofs
variable {t:Nat->Option cP} {fuel:Nat} {H:Heap} {pk:List UInt8->List (List UInt8)} {unpk:List (List UInt8)->Option (List UInt8)}
theorem Ds {cp:RC->ah} (hwk:t 30=some (.nat GS)) (d:Nat) (k:K) (G:Heap):aj (aN cp t fuel (d+1)) (.func 60 []) [] G k=k (.bool true) G:=by
 rw [oO hwk rfl rfl]
 rfl
theorem qH (T:aA t) (hc:aY t) (F:cD pk unpk) (hp:t 102=some (.nat (gI pk))) (hu:t 119=some (.nat (ev unpk))) (hwk:t 30=some (.nat GS)) (hw:H.wf) {lv ov:V} {rs:List (List (Nat × Nat))} {os:List Nat} (hr:OZ H lv rs) (ho:ML H ov os) (hfu:1000000<fuel)
 (d:Nat) (k:K) (x:R) (hx:∀ H',af H H'->k (.bool true) H'=x):aj (aN (aP Tryz.prog) t fuel (d+11)) (.func 8 []) [lv,ov] H k=x:=by
 have zw:=λ{d:Nat} {k:K} {G:Heap}=>Ds (fuel:=fuel) hwk (cp:=aP Tryz.prog) d k G
 have il0:=λ{id:Nat} {k:R}=>(let ⟨_,_,h,_⟩:=hr;aI h.one (id:=id) (k:=k))
 have il1:=λ{id:Nat} {k:R}=>aI ho.row.one (id:=id) (k:=k)
 obtain ⟨G1,p,v,c,z1o,f1,C1,S,hn8,ownC⟩:=Im (cp:=aP Tryz.prog) (fuel:=fuel) T hw hr (by omega)
 have z1:=λ{k:K}=>z1o (d+5) k
 have g:=S.RT C1.ok hn8
 obtain ⟨G2,A,a,n,us,dp,vp,O,vl,vs,vi,z2o,f2,VS,I,hf,h5,ownV,hM⟩:=GN (cp:=aP Tryz.prog) T hc F hp hu f1.wf hfu
 have z2:=λ{k:K}=>z2o d k
 have lc:=C1.lt
 have P2:PD G2 (XS .az λ_=>False) dp vp p A O (mz 8) vl vs vi false c v:=
  ⟨VS.fC,VS.get,VS.vn,VS.vo,(hM (CQ p v) λb hb=>lc b hb).jX λb _ h=>h.elim (λh=>h.elim (λh=>h.elim (λ⟨_,_,_,_,e⟩=>by cases e) False.elim) YG) YE,C1.fresh f2,λb hb h=>by have:=lc b hb;have:=ownV b h;omega,λb h=>h.elim (λ⟨_,_,_,_,e⟩=>by cases e) False.elim,λb h=>h.elim (λ⟨_,_,_,_,e⟩=>by cases e) False.elim,λb h=>h.elim (λ⟨_,_,_,_,e⟩=>by cases e) False.elim⟩
 have I2:VI pk A a n us (mz 8) (yY c 0):=⟨I.jd,I.lo,I.hi,I.room,I.l8,I.ok,I.Kl,I.rJ,S.s8,by
  refine ⟨?_,rfl,λi s s' h=>by cases i<;>cases h⟩
  show _=fp c 0
  unfold fp
  rw [if_pos rfl,S.s8]
  rfl⟩
 have D2:LD pk c p v H G2 dp vp .az [] (λ_=>False) A O (mz 8) vl vs vi a n us 0 0:=
  ⟨P2,⟨I2,hf,h5,Nat.zero_le _,YG ⟨rfl,rfl⟩⟩,Own.nil,λx h=>(by cases h),f1.trans f2,λb hb=>hb.elim (λh=>ownC b h) λh=>Yr f1.n (ownV b h),λb ⟨_,_,_,_,e⟩=>by cases e⟩
 obtain ⟨G3,vp',s',l',⟨A',O',m',vl',vs',vi',a',n',us',kk,q,D3,hk⟩,zl⟩:=FR (ov:=ov) T hc F hp hu g S ho ⟨_,_,_,_,_,_,_,_,_,_,_,D2,trivial⟩ hfu
 have hk:kk=c.aa.length:=hk
 have hml:=D3.fs.ml
 obtain ⟨G4,vL,z4o,f4,o4⟩:=rL (cp:=aP Tryz.prog) (fuel:=fuel) T (D3.pd.vpo D3.fs.vi) (by omega)
 have z4:=λ{k:K}=>z4o (d+9) k
 have D4:=D3.fresh f4
 obtain ⟨G5,vM,z5o,f5,o5⟩:=oQ (cp:=aP Tryz.prog) (fuel:=fuel) T D4.pd.ch (by omega)
 have z5:=λ{k:K}=>z5o (d+8) k
 have D5:=D4.fresh f5
 obtain ⟨G6,z6o,D6,-⟩:=GI (cp:=aP Tryz.prog) (fuel:=fuel) T hc g S D5 (by omega)
 have z6:=λ{k:K}=>z6o (d+4) k
 have sL:=λ{id:Nat} {f:Nat->R}=>o4.sn (id:=id) (f:=f)
 have sM:=λ{id:Nat} {f:Nat->R}=>o5.sn (id:=id) (f:=f)
 rw [hml,hk]at sL
 have nc:nn c.aa.length:=by unfold nn;omega
 have cc:c.aa.length<9223372036854775808:=by omega
 rw [aJ T.k4 rfl rfl]
 simp only [go_sem,c4,acT,acU,acV,acW,acX,acY,↓zw,↓z1,↓z2]
 refine zl d _ _ _ ?_ ?_ ?_ ?_ ?_ ?_ λe' q5 q7=>?_
 all_goals first|(simp only [go_sem];done)|skip
 simp only [go_sem,acZ,ac0,q5,q7,↓z4,↓sL,cc,↓z5,↓sM,↓z6]
 exact hx _ D6.fr
end Go.Ev
end
section
namespace Go.Ev
open Go.Deep Go.ChangeShapes Go.WideShapes Go.RowKit
theorem T2 {n:Int}:(n%(2 ^ IntKind.u8.bits:Nat)).toNat<256:=by
 have h1:(0:Int)<=n%(2 ^ IntKind.u8.bits:Nat):=YI4 _ (by simp [IntKind.bits])
 have h2:n%(2 ^ IntKind.u8.bits:Nat)<(2 ^ IntKind.u8.bits:Nat):=YE0 _ (by omega)
 simp only [IntKind.bits]at h1 h2 ⊢
 omega
theorem Vl {n:Int}:(n%(2 ^ IntKind.i64.bits:Nat)).toNat<18446744073709551616:=by
 have h1:(0:Int)<=n%(2 ^ IntKind.i64.bits:Nat):=YI4 _ (by simp [IntKind.bits])
 have h2:n%(2 ^ IntKind.i64.bits:Nat)<(2 ^ IntKind.i64.bits:Nat):=YE0 _ (by simp [IntKind.bits])
 simp only [IntKind.bits]at h1 h2 ⊢
 omega
theorem Mz {w:World} {b o len c:Nat} {row:List V} {v:V} {α:Type} {f:α->V} {p:Nat->α} (hl0:0<len) (hv:v = .slice b o len c 0) (hb:isRow ((dR w).get b) row) (hbn:b<(dR w).n) (h1:∀ i,i<len->(f (p i)).one=true) (hp:∀ i,i<len->row[o+i]? = some (f (p i))):
 Row (dR w) (λ_=>False) v 1 len (((WX len).map p).map f):=by
 have hlast:=(Yo.1 (hp (len-1) (by omega))).1
 refine ⟨by simp,λx hx=>?_,YE ⟨b,o,c,0,row,hv,hb,hbn,λh=>h,by omega,Qc λk=>?_⟩⟩
 .obtain ⟨y,hy,rfl⟩:=Yi.1 hx
  obtain ⟨i,hi,rfl⟩:=Yi.1 hy
  exact h1 i (QH.1 hi)
 .rw [Yu,WS]
  by_cases hk:k<len
  .rw [if_pos hk,Yy,hp k hk,Yg,Yg,YD2 hk]
   rfl
  .rw [if_neg hk,WY (by simp;omega)]
theorem tO:∀ l:List (Nat × Nat),(Al l).length=l.length*2
 | []=>rfl
 | p :: l=>by
  show (_ ++ Al l).length=_
  rw [YC,tO l]
  simp only [YH,YO];omega
theorem Nj:∀ {l:List (Nat × Nat)},∀ x ∈ Al l,x.one=true:=λ{l} x hx=>by
 obtain ⟨p,_,h⟩:=List.mem_flatMap.1 hx
 simp only [Yb,Wa,or_false]at h
 rcases h with rfl|rfl<;>rfl
section
variable {H:Type} {enc:TypeId × Value->H} {P:Program} {w:World}
theorem T3 {t e:TypeId} {fuel:Nat} {v:Value} {x:DataW H × List MemPlace} (ht:P.underlying t=some (.slice e)) (hz:P.cellsOf e=1) (he:P.underlying e=some (.int .u8)) (h:DataW.trod enc P w 0 (λ_=>true) true fuel t [v]=some x) (hnf:w.noneFrozen x.2):
 (qJ w.heap.size v).one=true/\∃ l:List Nat,l.length<9223372036854775808/\(∀ q ∈ l,q<256)/\Row (dR w) (λ_=>False) (qJ w.heap.size v) 1 l.length (l.map (V.int 4)):=by
 obtain ⟨h1,h2⟩:=rH ht hz (by omega) h hnf (λ_ _ _ _ _ hb=>(show False from hb).elim)
 refine ⟨h1,?_⟩
 rcases h2 with h2|⟨b,o,len,c,row,hl0,hl,hv,hb,hbn,hx⟩
 .exact ⟨[],by simp,λx hx=>(by cases hx),⟨rfl,λx hx=>(by cases hx),YG ⟨h2,rfl⟩⟩⟩
 have each:∀ i,i<len->∃ p:Nat,row[o+i]? = some (.int 4 p)/\p<256:=λi hi=>by
  obtain ⟨cs,n,y,hlen,hcs,htr,_⟩:=hx i hi
  match cs,hlen with
  | [v0],_=>
   obtain ⟨a,e0,_,x0⟩:=DataW.trod_int he htr
   cases e0
   have:=hcs 0 _ rfl
   rw [WS,WL,Dj x0]at this
   exact ⟨_,this,T2⟩
 obtain ⟨p,hp⟩:=choose_lt each
 refine ⟨(WX len).map p,by rw [Ys,QI];omega,λq hq=>?_,?_⟩
 .obtain ⟨i,hi,rfl⟩:=Yi.1 hq
  exact (hp i (QH.1 hi)).2
 .rw [Ys,QI]
  exact Mz (f:=V.int 4) hl0 hv (YE hb) hbn (λ_ _=>rfl) λi hi=>(hp i hi).1
theorem W6 {t e:TypeId} {f0 f1:Field} {fuel:Nat} {v:Value} {x:DataW H × List MemPlace} (ht:P.underlying t=some (.slice e)) (hz:P.cellsOf e=2) (he:P.underlying e=some (.struct #[f0,f1])) (o0:f0.offset=0) (o1:f1.offset=1) (c0:P.cellsOf f0.type=1) (c1:P.cellsOf f1.type=1) (u0:P.underlying f0.type=some (.int .i64)) (u1:P.underlying f1.type=some (.int .u8)) (h:DataW.trod enc P w 0 (λ_=>true) true fuel t [v]=some x) (hnf:w.noneFrozen x.2):
 (qJ w.heap.size v).one=true/\∃ ps,IW (dR w) (qJ w.heap.size v) ps:=by
 obtain ⟨h1,h2⟩:=rH ht hz (by omega) h hnf (λ_ _ _ _ _ hb=>(show False from hb).elim)
 refine ⟨h1,?_⟩
 rcases h2 with h2|⟨b,o,len,c,row,hl0,hl,hv,hb,hbn,hx⟩
 .exact ⟨[],by simp,λx hx=>(by cases hx),⟨rfl,λx hx=>(by cases hx),YG ⟨h2,rfl⟩⟩⟩
 have each:∀ i,i<len->∃ p:Nat × Nat,row[o+i*2]? = some (.int 3 p.1)/\row[o+i*2+1]? = some (.int 4 p.2)/\p.1<18446744073709551616/\p.2<256:=λi hi=>by
  obtain ⟨cs,n,y,hlen,hcs,htr,hnf'⟩:=hx i hi
  obtain ⟨ys,m,_,rfl,hl,hyl,hel⟩:=DataW.trod_struct he htr
  have hyl:ys.length=2:=hyl
  match cs,hlen,ys,hyl with
  | [v0,v1],_,[y0,y1],_=>
   have e0:=hel 0 f0 rfl
   have e1:=hel 1 f1 rfl
   simp [o0,c0]at e0
   simp [o1,c1]at e1
   obtain ⟨a0,q0,_,x0⟩:=DataW.trod_int u0 e0
   obtain ⟨a1,q1,_,x1⟩:=DataW.trod_int u1 e1
   cases q0
   cases q1
   have r0:=hcs 0 _ rfl
   have r1:=hcs 1 _ rfl
   rw [WL,Dj x0]at r0
   rw [Dj x1]at r1
   exact ⟨(_,_),r0,r1,Vl,T2⟩
 obtain ⟨p,hp⟩:=choose_lt each
 have hpl:((WX len).map p).length=len:=by rw [Ys,QI]
 have hget:∀ i,i<len->((WX len).map p).getD i (0,0)=p i:=λi hi=>by
  rw [YF,Yg,YD2 hi];rfl
 have hlast:=(Yo.1 (hp (len-1) (by omega)).2.1).1
 refine ⟨(WX len).map p,by rw [hpl];omega,λq hq=>?_,?_⟩
 .obtain ⟨i,hi,rfl⟩:=Yi.1 hq
  exact (hp i (QH.1 hi)).2.2
 .rw [hpl]
  refine ⟨by rw [tO,hpl],Nj,YE ⟨b,o,c,0,row,hv,YE hb,hbn,λh=>h,by omega,Qc λk=>?_⟩⟩
  rw [Yu]
  by_cases hk:k<len*2
  .rw [if_pos hk,Yy]
   obtain ⟨i,hi⟩:∃ i,i=k/2:=⟨_,rfl⟩
   have hil:i<len:=by omega
   obtain ⟨e0,e1⟩:=xy (l:=(WX len).map p) (i:=i) (by omega)
   rw [hget i hil]at e0 e1
   rcases (by omega:k=i*2\/k=i*2+1) with rfl|rfl
   .rw [e0];exact (hp i hil).1
   .rw [e1,<- Qe];exact (hp i hil).2.1
  .rw [if_neg hk,WY (by rw [tO,hpl];omega)]
theorem Xa {t e g:TypeId} {f0 f1:Field} {fuel:Nat} {v:Value} {x:DataW H × List MemPlace} (ht:P.underlying t=some (.slice e)) (hz:P.cellsOf e=1) (he:P.underlying e=some (.slice g)) (hg:P.cellsOf g=2) (hu:P.underlying g=some (.struct #[f0,f1])) (o0:f0.offset=0) (o1:f1.offset=1) (c0:P.cellsOf f0.type=1) (c1:P.cellsOf f1.type=1) (u0:P.underlying f0.type=some (.int .i64)) (u1:P.underlying f1.type=some (.int .u8)) (h:DataW.trod enc P w 0 (λ_=>true) true fuel t [v]=some x) (hnf:w.noneFrozen x.2):
 (qJ w.heap.size v).one=true/\∃ rs,OZ (dR w) (qJ w.heap.size v) rs:=by
 obtain ⟨h1,h2⟩:=rH ht hz (by omega) h hnf (λ_ _ _ _ _ hb=>(show False from hb).elim)
 refine ⟨h1,?_⟩
 rcases h2 with h2|⟨b,o,len,c,row,hl0,hl,hv,hb,hbn,hx⟩
 .exact ⟨[],by simp,[],⟨rfl,λx hx=>(by cases hx),YG ⟨h2,rfl⟩⟩,λi r hr=>by simp at hr⟩
 have each:∀ i,i<len->∃ p:V × List (Nat × Nat),row[o+i]? = some p.1/\p.1.one=true/\IW (dR w) p.1 p.2:=λi hi=>by
  obtain ⟨cs,n,y,hlen,hcs,htr,hnf'⟩:=hx i hi
  match cs,hlen with
  | [v0],_=>
   obtain ⟨g1,l,g2⟩:=W6 he hg hu o0 o1 c0 c1 u0 u1 htr hnf'
   have:=hcs 0 _ rfl
   rw [WS,WL]at this
   exact ⟨(_,l),this,g1,g2⟩
 have:Inhabited V:=⟨.az⟩
 obtain ⟨p,hp⟩:=choose_lt each
 refine ⟨(WX len).map λi=>(p i).2,by rw [Ys,QI];omega,((WX len).map p).map (·.1),?_,λi r hr=>?_⟩
 .rw [Ys,QI]
  exact Mz (f:=λq:V × List (Nat × Nat)=>q.1) hl0 hv (YE hb) hbn (λi hi=>(hp i hi).2.1) λi hi=>(hp i hi).1
 .rw [Yg]at hr
  obtain ⟨j,h3,rfl⟩:=Option.map_eq_some_iff.1 hr
  obtain ⟨h4,h5⟩:=Yo.1 h3
  rw [List.getElem_range]at h5
  subst h5
  rw [QI]at h4
  obtain ⟨g0,g1,g2⟩:=hp i h4
  exact ⟨(p i).1,by rw [Yg,Yg,h3];rfl,g2⟩
end
end Go.Ev
end

