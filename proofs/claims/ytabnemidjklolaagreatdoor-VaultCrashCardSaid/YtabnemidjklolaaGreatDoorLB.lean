/- LB: a part of the evaluator,of its logic,or of the laws' walk in it. -/
import Derived.Test.YtabnemidjklolaaGreatDoorLA
open List renaming getElem?_eq_getElem→YA,length_append→YB,length_cons→YH,mem_cons_of_mem→YI,nil_append→YJ,mem_singleton→YK,cons_append→YL,mem_cons_self→YM,mem_cons→YN,map_cons→YP,length_nil→YS,mem_map→YW,append_nil→YX,eq_nil_of_length_eq_zero→YY,map_nil→YZ,replicate→Yc,length_map→Yg,take_of_length_le→Yk,mem_append→Yl,length_take→Yv,map_append→Yz,append_assoc→WA,getElem?_drop→WB,length_drop→WJ,flatten_cons→WL,length_replicate→WW,range→WY,flatMap_cons→Wa,not_mem_nil→Wf,length→Wl,flatMap_nil→QL,foldl_cons→Qb,find?_cons→Qc,flatten_nil→Qf,countP_mono_left→YM2,drop_left→YN2
open Nat renaming le_refl→YC,lt_of_lt_of_le→YE,zero_add→WG,mod_eq_of_lt→WH,add_zero→WN,min_eq_left→Ws,mul_comm→Ww,sub_zero→Wx,shiftRight_add→YP3
open Or renaming inr→YD,inl→YF
set_option linter.unusedVariables false
set_option linter.unusedSimpArgs false
set_option linter.unusedSectionVars false
set_option maxHeartbeats 8000000
open Nat renaming reduceLT→ZE
section
namespace Go.Ev
def bR(b:Nat)(all:List UInt8)(pos:Nat):eN:=.cells [.slice b pos (all.length-pos) 0 1,.bool false]
def IM(l:List UInt8):Nat:=l.foldl (λa b=>a*256+b.toNat) 0
theorem Gi:∀(m n)(s),n<256^m->(be m n s).foldl (λa b=>a*256+b.toNat) 0=s.foldl (λa b=>a*256+b.toNat) n
 |0,n,s,h=>by simp at h;subst h;rfl|m+1,n,s,h=>by
  simp only[be];split;.simp_all
  .rw[Gi m (n/256) _ (by omega)];simp only[Qb,toNat_ofNat (show n%256<256by omega)];congr 1;omega
theorem acs{n}(h:n<18446744073709551616):IM (be 8 n [])=n:=by
 have h8:(256:Nat)^8=18446744073709551616:=by rfl
 unfold IM;rw[Gi 8 n [] (by omega)];rfl
theorem FZ(l)(b):IM (l++[b])=IM l*256+b.toNat:=by simp only[IM,List.foldl_append,Qb,List.foldl_nil]
theorem F9:∀(l:List UInt8)(a),l.foldl (λa b=>a*256+b.toNat) a<(a+1)*256^l.length|[],a=>by simp|b::l,a=>by have h:=F9 l (a*256+b.toNat);have hb:=b.toNat_lt;simp only[Qb,YH,Nat.pow_succ];refine YE h ?_;rw[Ww (256^l.length),<-Nat.mul_assoc];exact Nat.mul_le_mul_right _ (by omega)
theorem acu(l):IM l<256^l.length:=by have:=F9 l 0;simpa[IM]using this
theorem Ls:∀(m n)(s r)(d),n≠0->n<256^m->be m n s=d::r->d≠0
 |0,n,s,r,d,h,h1,_=>by omega|m+1,n,s,r,d,h,h1,h2=>by
  simp only[be,if_neg h]at h2;by_cases h3:n/256=0
  .have h4:be m (n/256) (UInt8.ofNat (n%256)::s)=UInt8.ofNat (n%256)::s:=by cases m with|zero=>rfl|succ m=>simp only[be,if_pos h3]
   rw[h4]at h2;simp only[List.cons.injEq]at h2;rw[<-h2.1];intro h5;have:=congrArg UInt8.toNat h5;rw[toNat_ofNat (by omega)]at this;have h6:(0:UInt8).toNat=0:=rfl;omega
  .exact Ls m (n/256) _ r d h3 (by omega) h2
theorem CY:∀(l)(i)(h),enc l>>>(8*i)&&&255=l[i].toNat
 |x::l,0,_=>by simp only[enc];have h:=Nat.and_two_pow_sub_one_eq_mod (x.toNat+256*enc l) 8;simp_all|x::l,i+1,h=>by
  have hx:=x.toNat_lt;have h1:enc (x::l)>>>(8*(i+1))=enc l>>>(8*i):=by rw[show 8*(i+1)=8+8*i by omega,YP3];congr 1;simp only[enc];omega
  rw[h1,CY l i (by simp_all)];simp
section
variable{cp:RC->au}{t:Nat->Option du}{fuel:Nat}{H:Heap}
set_option maxRecDepth 4000in theorem uX(T:aB t){d r b pos n}{k}{all}(hw:H.wf)(hr:H.get r=bR b all pos)(hrn:r<H.n)(hlen:all.length<1000000)(hn:pos+n<=all.length):aj (aS cp t fuel (d+1)) (.func 258 []) [.ptr r 0,.int 7 n] H k=k (.slice b pos n (n+1) 0) (H.put r (bR b all (pos+n))):=by
 have e1:=l_ (all.length-pos);have e2:=m_ (all.length-pos);have e3:(ej (.gt 0 18446744073709551616) n (all.length-pos)=true)=False:=by rw[oO (by omega) (by omega)];exact propext ⟨λh=>by omega,False.elim⟩
 have e4:=l_ n;have e5:n<=all.length-pos:=by omega
 have e6:all.length-pos-n=all.length-(pos+n):=by omega
 unfold bR at hr⊢;rw[ax T.afz rfl rfl];by_cases hz:n=0;.subst hz;simp only[go_sem,ab5,hr,hw,hrn,e1,e2,e3,e4,e5,e6,Wx]
 .simp only[go_sem,ab5,hr,hw,hrn,e1,e2,e3,e4,e5,e6,hz,Wx]
theorem UG(T:aB t){b c z p}{all s}{G}(hb:G.get b=.bytes all.length (enc all))(hs:∀j(h),∃h':p+j<all.length,all[p+j]=s[j])(hq:s.length<=8):∀(m i),i+m=s.length->∀(d)(kx)(r)(e)(v0 v3 v4:V),m<r->af s000 e=v0->af s006 e=v3->af s005 e=.int 7 (IM (s.take i))->af s035 e=.slice b p s.length c z->af s036 e=.int 3 s.length->af s037 e=.int 3 i->∀x:R,(∀e',af s000 e'=v0->af s006 e'=v3->af s005 e'=.int 7 (IM s)->kx 1 e' G=x)->
  kq LW fuel (aS cp t fuel d) kx r e G=x:=by intro m;induction m with|zero=>
  intro i hi d kx r e v0 v3 v4 hr h0 h6 h5 h35 h36 h37 x hT;obtain⟨r,rfl⟩:=s_ r;have hi':i=s.length:=by omega
  subst hi';have e1:¬s.length<s.length:=by omega
  have e2:=n_ s.length;rw[ak];simp only[go_sem,LW,h36,h37,e1,e2];rw[List.take_length]at h5;exact hT _ h0 h6 h5|succ m ih=>
  intro i hi d kx r e v0 v3 v4 hr h0 h6 h5 h35 h36 h37 x hT;obtain⟨r,rfl⟩:=s_ r;have hlt:i<s.length:=by omega
  obtain⟨hp,hv⟩:=hs i hlt;have e1:=n_ i;have e2:=n_ s.length;have e3:=l_ i;have e4:enc all>>>(8*(p+i))&&&255=s[i].toNat:=by rw[CY all _ hp,hv]
  have hbt:=(s[i]).toNat_lt;have e5:=m_ (s[i].toNat);have e9:=m_ (i+1);have htk:s.take (i+1)=s.take i++[s[i]]:=by rw[List.take_add_one,YA hlt];rfl
  have hlt2:IM (s.take (i+1))<18446744073709551616:=by have h1:=acu (s.take (i+1));have h2:(256:Nat)^(s.take (i+1)).length<=256^8:=Nat.pow_le_pow_right (by omega) (by rw[Yv];omega);omega
  rw[htk,FZ]at hlt2;have e6:(IM (s.take i)<<<8)%18446744073709551616|||s[i].toNat=IM (s.take (i+1)):=by have q1:IM (s.take i)<<<8=IM (s.take i)*256:=Nat.shiftLeft_eq _ _;have q2:=WH (Nat.lt_of_le_of_lt (Nat.le_add_right _ _) hlt2);have q3:IM (s.take i)<<<8+s[i].toNat=IM (s.take i)<<<8|||s[i].toNat:=Nat.shiftLeft_add_eq_or_of_lt (show s[i].toNat<2^8from hbt) _;rw[q1,q2,htk,FZ,<-q1];omega
  rw[ak];simp only[go_sem,LW,h5,h35,h36,h37,hlt,e1,e2,e3,e4,e5,e6,e9,hb,hp];refine ih (i+1) (by omega) d kx r _ v0 v3 v4 (by omega) ?_ ?_ ?_ ?_ ?_ ?_ x hT<;>simp only[go_sem,h0,h6,h35,h36]
set_option maxRecDepth 4000in theorem lC(T:aB t){d r b pos n:Nat}{k:K}{all rest:List UInt8}(hw:H.wf)(hr:H.get r=bR b all pos)(hrn:r<H.n)(hb:H.get b=.bytes all.length (enc all))(hbr:b≠r)(hlen:all.length<1000000)(hn:n<18446744073709551616)(hd:all.drop pos=bJ n++rest)(hfu:8<fuel):aj (aS cp t fuel (d+2)) (.func 184 []) [.ptr r 0] H k=k (.int 7 n) (H.put r (bR b all (pos+(bJ n).length))):=by
 have hle:=qD 8 n [];simp only[YS,WN]at hle;have hpn:bJ n=UInt8.ofNat (be 8 n []).length::be 8 n []:=rfl;have hfb:=acs hn;have h8:(256:Nat)^8=18446744073709551616:=by decide
 have hhd:=λd r h=>Ls 8 n [] r d (λh0=>by rw[h0]at h;simp[be]at h) (by omega) h;rw[hpn]at hd⊢;generalize be 8 n []=s at hle hfb hhd hd⊢;have hdl:=congrArg Wl hd;simp only[WJ,YB,YH]at hdl⊢;have hget:∀j(h),∃h':pos+1+j<all.length,all[pos+1+j]=s[j]:=λj h=>by
  refine⟨by omega,?_⟩;have h1:(all.drop pos)[1+j]?=(UInt8.ofNat s.length::s++rest)[1+j]?:=by rw[hd]
  rw[WB,Nat.add_comm 1 j,show pos+(j+1)=pos+1+j by omega,YA (by omega)]at h1;simp only[YL,List.getElem?_cons_succ]at h1;rw[List.getElem?_append_left h,YA h]at h1;exact Option.some.inj h1
 have hp0:pos<all.length:=by omega
 have hg0:=by
  have h1:(all.drop pos)[0]?=(UInt8.ofNat s.length::s++rest)[0]?:=by rw[hd]
  rw[WB,WN,YA hp0]at h1;exact Option.some.inj h1
 have e0:enc all>>>(8*pos)&&&255=s.length:=by rw[CY all _ hp0,hg0,toNat_ofNat (by omega)]
 have e1:(ej (.gt 0 256) s.length 8=true)=False:=by rw[LZ];exact propext ⟨λh=>by omega,False.elim⟩
 have e2:=m_ s.length;have e3:=l_ s.length;have e4:=n_ s.length;have n0:=n_ 0;have t1:∀{k},aj (aS cp t fuel (d+1)) (.func 259 [.ptr r 0]) [.int 7 1] H k=k (.slice b pos 1 2 0) (H.put r (bR b all (pos+1))):=λ{k}=>by exact uX T hw hr hrn hlen (by omega)
 have hw1:(H.put r (bR b all (pos+1))).wf:=by rw[Heap.bu];exact hw
 have t2:∀{k},aj (aS cp t fuel (d+1)) (.func 259 [.ptr r 0]) [.int 7 s.length] (H.put r (bR b all (pos+1))) k=k (.slice b (pos+1) s.length (s.length+1) 0) (H.put r (bR b all (pos+(s.length+1)))):=λ{k}=>by rw[Jn (f:=259) (g:=258) rfl rfl rfl];rw[YL,YJ,uX T hw1 (by rw[Heap.aC hw hrn,if_pos rfl]) (by rw[Heap.aR];exact hrn) hlen (by omega),Heap.jz,show pos+1+s.length=pos+(s.length+1)by omega]
 have hL:=UG (cp:=cp) (fuel:=fuel) (c:=s.length+1) (z:=0) (G:=H.put r (bR b all (pos+(s.length+1)))) T (by rw[Heap.aC hw hrn,if_neg hbr];exact hb) hget hle s.length 0 (by omega) (d+1);rw[ax T.k92 rfl rfl];simp only[go_sem,ZE,c92,t1,t2,hw,hrn,hb,hbr,e0,e1,e2,e3,hp0];refine hL _ fuel _ (.ptr r 0) (.slice b (pos+1) s.length (s.length+1) 0) .aE (by omega) ?_ ?_ ?_ ?_ ?_ ?_ _ (λe' g0 g6 g5=>?_);.rfl
 .rfl
 .rfl
 .rfl
 .rfl
 .rfl
 .cases hs:s with|nil=>
   have e5:=by omega
   rw[hs]at g5 g6 hfb;simp only[go_sem,ZE,g5,g6,n0,hfb]|cons x s'=>
   have hx:=hhd x s' hs;have hxt:¬x.toNat=0:=λh=>hx (UInt8.toNat_inj.1 h);obtain⟨h1,h2⟩:=hget 0 (by rw[hs];simp);have e6:enc all>>>(8*(pos+1))&&&255=x.toNat:=by have:=CY all (pos+1) (by omega);rw[this];rw[h2];simp[hs]
   have e7:0<s'.length+1:=by omega
   have e8:=by exact e4
   have e9:s'.length+1<9223372036854775808:=by rw[hs]at e3;exact e3
   have e10:pos+1<all.length:=by omega
   rw[hs]at g5 g6 hfb;simp only[go_sem,g5,g6,n0,hfb,e6,e7,e9,e10,hb,hbr,hw,hrn,hxt]
end
def tx(l:List UInt8):Tx:=(l.length,enc l)
theorem abv(l):sv (tx l)=tv l:=rfl
theorem Bv:∀n:Nat,enc (Yc n 0)=0|0=>rfl|n+1=>by rw[List.replicate_succ];simp only[enc,Bv n];rfl
def fF(a n:Nat):List UInt8:=bJ (a+1)++(bJ n++Yc (32-(bJ (a+1)++bJ n).length) 0)
theorem nW(a n):(fF a n).length=32:=by have h1:=bP (a+1);have h2:=bP n;simp only[fF,YB,WW];omega
section
variable{cp:RC->au}{t:Nat->Option du}{fuel:Nat}{H:Heap}
theorem DI(T:aB t){a b}(hw:H.wf)(ha:a.length+b.length<4000000000000000000)(hfu:8<fuel):∃H',(∀(d)(k),aj (aS cp t fuel (d+3)) (.func 280 []) [tv a,tv b] H k=k (tv (a++bJ b.length++b)) H')/\ah H H':=by
 obtain⟨H',h1,f1⟩:=fj (cp:=cp) T (a:=a) (n:=b.length) hw (by omega) (by omega) hfu;have hpl:=bP b.length;have e1:=l_ b.length;have e2:=m_ b.length;have e3:(a++bJ b.length).length+b.length<9223372036854775808:=by rw[YB];omega
 refine⟨H',λd k=>?_,f1⟩;rw[<-Cf];rw[show tv (a++bJ b.length)=.str (a++bJ b.length).length (enc (a++bJ b.length))from rfl]at h1;rw[show tv b=.str b.length (enc b)from rfl];generalize a++bJ b.length=s at h1 e3⊢;rw[ax T.afK rfl rfl];simp only[go_sem,aeB,h1,e1,e2,e3]
theorem Xt(T:aB t){a i d}{k}(ha:a<2)(hi:i<1000000):aj (aS cp t fuel (d+1)) (.func 168 []) [.int 3 a,.int 3 i] H k=k (.int 3 (1+a*72+i)) H:=by have e1:=m_ (a*72);have e2:=m_ (1+a*72);have e3:=m_ (1+a*72+i);rw[ax T.k84 rfl rfl];simp only[go_sem,c84,e1,e2,e3]
theorem pU(T:aB t){a n}(hw:H.wf)(ha:a<2)(hn:n<=72)(hfu:8<fuel):∃H',(∀(d)(k),aj (aS cp t fuel (d+3)) (.func 218 []) [.int 3 a,.int 3 n] H k=k (tv (fF a n)) H')/\ah H H':=by
 obtain⟨H1,h1,f1⟩:=fj (cp:=cp) T (a:=[]) (n:=a+1) hw (by simp) (by omega) hfu;obtain⟨H2,h2,f2⟩:=fj (cp:=cp) T (a:=bJ (a+1)) (n:=n) f1.wf (by have:=bP (a+1);omega) (by omega) hfu;have l1:=bP (a+1);have l2:=bP n;refine⟨H2.new (.bytes (32-(bJ (a+1)++bJ n).length) 0),λd k=>?_,(f1.trans f2).trans (ah.new f2.wf)⟩;have hh:fF a n=(bJ (a+1)++bJ n)++Yc (32-(bJ (a+1)++bJ n).length) 0:=by simp[fF]
 rw[hh,<-Cf,Bv,Nat.zero_mul,WN,WW];rw[show tv ([]:List UInt8)=.str 0 0from rfl]at h1;have hs:(bJ (a+1)++bJ n).length<=18:=by rw[YB];omega
 rw[show tv (bJ (a+1)++bJ n)=.str (bJ (a+1)++bJ n).length (enc (bJ (a+1)++bJ n))from rfl]at h2;generalize bJ (a+1)++bJ n=s at h2 hs⊢;have e1:=m_ a;have e2:=m_ (a+1);have e3:=m_ n;have e4:=l_ s.length;have e5:(32+(18446744073709551616-s.length))%18446744073709551616=32-s.length:=by omega
 have e6:32-s.length<=16777216:=by omega
 have e7:=l_ (s.length+(32-s.length));have hw2:=f2.wf;rw[ax T.afo rfl rfl];simp only[go_sem,aem,h1,h2,e1,e2,e3,e4,e5,e6,e7,hw2]
theorem lB(T:aB t){l}{d}{k}(hw:H.wf)(hl:l.length<1000000):aj (aS cp t fuel (d+1)) (.func 180 []) [tv l] H k=k (.ptr (H.n+1) 0) ((H.new (.bytes l.length (enc l))).new (bR H.n l 0)):=by
 have e1:l.length<=16777216:=by omega
 rw[show tv l=.str l.length (enc l)from rfl,ax T.k90 rfl rfl];simp only[go_sem,c90,hw,e1,bR,Wx]
theorem MA(T:aB t){r b pos d}{all}{k}(hr:H.get r=bR b all pos):aj (aS cp t fuel (d+1)) (.func 286 []) [.ptr r 0] H k=k (.bool true) H:=by unfold bR at hr;rw[ax T.afN rfl rfl];simp only[go_sem,aeC,hr]
set_option maxRecDepth 4000in theorem KB(T:aB t){a n}(hw:H.wf)(ha:a<2)(hn:n<=72)(hfu:8<fuel):∃H',(∀(d)(k),aj (aS cp t fuel (d+4)) (.func 236 []) [tv (fF a n)] H k=k (.cG [.int 3 a,.int 3 n,.bool true]) H')/\ah H H':=by
 have hlen:=nW a n;have hd1:(fF a n).drop 0=bJ (a+1)++(bJ n++Yc (32-(bJ (a+1)++bJ n).length) 0):=rfl;have hd2:(fF a n).drop (0+(bJ (a+1)).length)=bJ n++Yc (32-(bJ (a+1)++bJ n).length) 0:=by rw[WG,fF,YN2]
 have hnr:∀{d}{k},aj (aS cp t fuel (d+1)) (.func 180 []) [tv (fF a n)] H k=k (.ptr (H.n+1) 0) ((H.new (.bytes 32 (enc (fF a n)))).new (bR H.n (fF a n) 0)):=λ{d k}=>by rw[lB T hw (by omega),hlen]
 have fG:ah H ((H.new (.bytes 32 (enc (fF a n)))).new (bR H.n (fF a n) 0)):=(ah.new hw).trans (ah.new (by rw[Heap.aY];omega));generalize hG:(H.new (.bytes 32 (enc (fF a n)))).new (bR H.n (fF a n) 0)=G at hnr fG;have gw:=fG.wf;have gn:G.n=H.n+1+1:=by rw[<-hG];simp only[Heap.aK]
 have gr:G.get (H.n+1)=bR H.n (fF a n) 0:=by rw[<-hG,Heap.aD (by rw[Heap.aY];omega),if_pos (by rw[Heap.aK])]
 have gb:G.get H.n=.bytes (fF a n).length (enc (fF a n)):=by rw[<-hG,Heap.aD (by rw[Heap.aY];omega),if_neg (by rw[Heap.aK];omega),Heap.aD hw,if_pos rfl,hlen]
 have hrn:H.n+1<G.n:=by omega
 have hne:H.n≠H.n+1:=by omega
 have hn1:∀{d}{k},aj (aS cp t fuel (d+2)) (.func 184 []) [.ptr (H.n+1) 0] G k=k (.int 7 (a+1)) (G.put (H.n+1) (bR H.n (fF a n) (0+(bJ (a+1)).length))):=λ{d k}=>lC T gw gr hrn gb hne (by omega) (by omega) hd1 hfu;generalize hpos:0+(bJ (a+1)).length=pos at hn1 hd2;have hn2:∀{d}{k},aj (aS cp t fuel (d+2)) (.func 184 []) [.ptr (H.n+1) 0] (G.put (H.n+1) (bR H.n (fF a n) pos)) k=k (.int 7 n) (G.put (H.n+1) (bR H.n (fF a n) (pos+(bJ n).length))):=λ{d k}=>by rw[lC T (by rw[Heap.bu];omega) (by rw[Heap.aC gw hrn,if_pos rfl]) (by rw[Heap.aR];omega) (by rw[Heap.aC gw hrn,if_neg hne];omega) hne (by omega) (by omega) hd2 hfu,Heap.jz]
 have fG2:ah H (G.put (H.n+1) (bR H.n (fF a n) (pos+(bJ n).length))):=ah.put fG (by omega) hrn;have hok:∀{d}{k},aj (aS cp t fuel (d+1)) (.func 286 []) [.ptr (H.n+1) 0] (G.put (H.n+1) (bR H.n (fF a n) (pos+(bJ n).length))) k=k (.bool true) (G.put (H.n+1) (bR H.n (fF a n) (pos+(bJ n).length))):=λ{d k}=>MA T (by rw[Heap.aC gw hrn,if_pos rfl]);obtain⟨H3,hh,f3⟩:=pU (cp:=cp) T fG2.wf ha hn hfu;refine⟨H3,λd k=>?_,fG2.trans f3⟩;rw[show tv (fF a n)=.str 32 (enc (fF a n))by rw[tv,hlen]]at hnr hh⊢;have e1:(ej (.lt 0 18446744073709551616) (a+1) 1=true)=False:=by rw[BS (by omega) (by omega)];exact propext ⟨λh=>by omega,False.elim⟩
 have e2:(ej (.gt 0 18446744073709551616) (a+1) 2=true)=False:=by rw[oO (by omega) (by omega)];exact propext ⟨λh=>by omega,False.elim⟩
 have e3:(ej (.gt 0 18446744073709551616) n 72=true)=False:=by rw[oO (by omega) (by omega)];exact propext ⟨λh=>by omega,False.elim⟩
 have e4:=m_ (a+1);have e5:(a+1+18446744073709551615)%18446744073709551616=a:=by omega
 have e6:=m_ n;rw[ax T.afu rfl rfl];simp only[go_sem,aeo,hnr,hn1,hn2,hok,hh,e1,e2,e3,e4,e5,e6,and_self]
theorem BH(T:aB t)(hc:aM t){p a n}{A}{O}(hD:cB H p A O)(ho:A.off=false)(hl:0<A.len)(hr:A.read 0=tx (fF a n))(ha:a<2)(hn:n<=72)(hfu:8<fuel):∃H',(∀(d)(k),aj (aS cp t fuel (d+5)) (.func 164 []) [.ptr p 0] H k=k (.cG [.int 3 a,.int 3 n,.int 3 0]) H')/\ah H H':=by obtain⟨H1,h1,f1⟩:=qm (cp:=cp) (fuel:=fuel) (T.jJ hc) hD ho hl;obtain⟨H2,h2,f2⟩:=KB (cp:=cp) T f1.wf ha hn hfu;refine⟨H2,λd k=>?_,f1.trans f2⟩;rw[hr,abv]at h1;rw[ax T.k82 rfl rfl];simp only[go_sem,c82,h1,h2]
end
theorem ah.dS{G G':Heap}(h:ah G.mark G'):ah G (G'.dS G.bD)/\G.n<=G'.bD:=⟨⟨h.wf,h.n,h.same,λ_ h1 _=>h1⟩,h.lo G.n (YC _) (YC _)⟩
def tM(x:Tx):Prop:=x.2<256^x.1
def IQ(w:Wr):List UInt8:=aF w.2.1 w.2.2
theorem VL{w}(h:tM w.2):tv (IQ w)=.str w.2.1 w.2.2:=by unfold tv IQ;rw[aL,nU _ _ h]
theorem lM(w):(IQ w).length=w.2.1:=aL _ _
def AL(w:Wr):List UInt8:=bJ w.1++bJ w.2.1++IQ w
def pt(ws:List Wr):List UInt8:=ws.flatMap AL
theorem vZ(w):(AL w).length<=w.2.1+18:=by have h1:=bP w.1;have h2:=bP w.2.1;simp only[AL,YB,lM];omega
theorem HK:∀(ws),(∀w∈ws,w.2.1<=1000)->(pt ws).length<=ws.length*1018|[],_=>by simp[pt]|w::ws,h=>by have h1:=vZ w;have h2:=HK ws λv hv=>h v (YI _ hv);have h3:=h w (YM ..);have:pt (w::ws)=AL w++pt ws:=rfl;rw[this];simp only[YB,YH];omega
section
variable{cp:RC->au}{t:Nat->Option du}{fuel:Nat}{H:Heap}
set_option maxRecDepth 4000in theorem HM(T:aB t){b c s n:Nat}{all:List Wr}(hfu:8<fuel)(hb:H.get b=.cells (bX all))(hbn:b<H.n)(hn:n=all.length)(hnb:n<10000)(hall:∀w∈all,w.1<18446744073709551616/\w.2.1<=1000/\tM w.2):∀(ws pre:List Wr)(acc:List UInt8)(G:Heap),all=pre++ws->acc.length+ws.length*1018<100000000->ah H G->∃G',ah H G'/\∀(d:Nat)(kx:Nat->KE)(r:Nat)(e:Env)(v0:V),ws.length<r->af s000 e=v0->af s006 e=tv acc->af s022 e=.slice b 0 n c s->af s023 e=.int 3 n->af s024 e=.int 3 pre.length->∀x:R,(∀e',af s000 e'=v0->af s006 e'=tv (acc++pt ws)->kx 1 e' G'=x)->
  kq Cv fuel (aS cp t fuel (d+3)) kx r e G=x:=by intro ws;induction ws with|nil=>
  intro pre acc G hal hac f;refine⟨G,f,λd kx r e v0 hr h0 h6 h22 h23 h24 x hT=>?_⟩;obtain⟨r,rfl⟩:=s_ r;have hi:pre.length=n:=by rw[hn,hal,YX]
  have e1:¬n<n:=by omega
  have e2:=n_ n;rw[ak];rw[hi]at h24;simp only[go_sem,Cv,h23,h24,e1,e2];exact hT _ h0 (by simp only[go_sem,h6,pt,QL])|cons w ws ih=>
  intro pre acc G hal hac f;simp only[YH]at hac;have hw:=f.wf;obtain⟨hw1,hw2,hw3⟩:=hall w (by rw[hal];simp);have hlt:pre.length<n:=by rw[hn,hal];simp only[YB,YH];omega
  have e1:=n_ pre.length;have e2:=n_ n;have e3:=l_ pre.length;have e4:pre.length*2<=(bX all).length:=by rw[dB,<-hn];omega
  have hd:(bX all).drop (pre.length*2)=.int 3 w.1::.str w.2.1 w.2.2::bX ws:=by rw[hal,qL];rfl
  have e5:=by omega
  have e8:G.n<G.n+1:=by omega
  have e9:=m_ (pre.length+1);have e10:=m_ w.1;have hbG:=(f.same b hbn).trans hb;generalize hG1:(G.new (.cells [.int 3 0,.str 0 0])).put G.n (.cells [.int 3 w.1,.str w.2.1 w.2.2])=G1;have f1:ah H G1:=by rw[<-hG1];exact ah.put (f.trans (ah.new hw)) f.n (by simp only[Heap.aK];omega)
  have g1n:G1.get G.n=.cells [.int 3 w.1,.str w.2.1 w.2.2]:=by rw[<-hG1];simp only[Heap.aC,Heap.aD,Heap.aY,Heap.aK,hw,e8,if_true]
  have g1l:G.n<G1.n:=by rw[<-hG1];simp only[Heap.aR,Heap.aK];omega
  have rl:=vZ w;have pl1:=bP w.1;obtain⟨G2m,hc2,f2m⟩:=fj (H:=G1.mark) (cp:=cp) T (a:=acc) f1.wf (by omega) hw1 hfu;obtain⟨f2,hlo⟩:=f2m.dS;generalize hG2:G2m.dS G1.bD=G2 at f2;have g2n:=(f2.same _ g1l).trans g1n;obtain⟨G3,hc3,f3⟩:=DI (cp:=cp) T (a:=acc++bJ w.1) (b:=IQ w) f2.wf (by simp only[YB,lM];omega) hfu;have hacc:acc++bJ w.1++bJ (IQ w).length++IQ w=acc++AL w:=by rw[lM];simp only[AL,WA]
  rw[hacc,VL hw3]at hc3;obtain⟨G',f',hG'⟩:=ih (pre++[w]) (acc++AL w) G3 (by rw[hal];simp) (by rw[YB];omega) ((f1.trans f2).trans f3);refine⟨G',f',λd kx r e v0 hr h0 h6 h22 h23 h24 x hT=>?_⟩;obtain⟨r,rfl⟩:=s_ r;have hc2':=λ{d}{k}=>hc2 (d+1) k;rw[ak];simp only[go_sem,Cv,h6,h22,h23,h24,hlt,e1,e2,e3,e4,hd,e8,e9,e10,hbG,hw,hG1,g1n,hc2',hlo,hG2,g2n,hc3];refine hG' d kx r _ v0 (by simp only[YH]at hr;omega) ?_ ?_ ?_ ?_ ?_ x (λe' g0 g6=>hT e' g0 (by rw[g6];simp only[pt,Wa,WA]))<;>simp only[go_sem,h0,h22,h23]
end
structure bH(pk:List UInt8->List (List UInt8))(unpk:List (List UInt8)->Option (List UInt8)):Prop where
 len:∀t,t.length<=8192->∀s∈pk t,s.length=32num:∀t,t.length<=2240->(pk t).length<=72pos:∀t,t.length<=8192->pk t≠[]back:∀t,t.length<=8192->unpk (pk t)=some t
 size:∀t,t.length<=8192->(pk t).length=(t.length+37)/32short:∀t k,t.length<=8192->k<(pk t).length->unpk ((pk t).take k)=none
noncomputable def dO(pk:List UInt8->List (List UInt8))(args:List V)(H:Heap)(k:K):R:=match args with|[.str l n]=>if l<=8192/\n<256^l then cN H (.cells ((pk (aF l n)).map tv)) λb H'=>k (.cG [.slice b 0 (pk (aF l n)).length 0 1,.int 3 0]) H' else no 0|_=>no 0
def outs(area:Nat)(ps:List (List UInt8)):List Wr:=ps.mapIdx λi s=>(1+area*72+i,tx s)
theorem qi(area)(ps):(outs area ps).length=ps.length:=by simp[outs]
theorem Pj(area)(ps)(s):outs area (ps++[s])=outs area ps++[(1+area*72+ps.length,tx s)]:=by simp[outs,List.mapIdx_append]
def bV(ws:List Wr):List UInt8:=bJ ws.length++pt ws
def AW(H G:Heap)(v:V)(ws:List Wr):Prop:=(v=.aE/\ws=[])\/∃b,v=.slice b 0 ws.length 0 2/\ws≠[]/\G.get b=.cells (bX ws)/\H.n<=b/\b<G.n
section
variable{cp:RC->au}{t:Nat->Option du}{fuel:Nat}{H:Heap}
theorem EL(T:aB t){a i d}{k}{G}(ha:a<2)(hi:i<1000000):aj (aS cp t fuel (d+1)) (.func 168 []) [.int 3 a,.int 3 i] G k=k (.int 3 (1+a*72+i)) G:=Xt T ha hi
set_option maxRecDepth 4000in theorem DN(T:aB t){b area n:Nat}{all:List (List UInt8)}(ha:area<2)(hn:n=all.length)(hnb:n<10000):∀(ps pre:List (List UInt8))(G:Heap)(vo:V),all=pre++ps->ah H G->AW H G vo (outs area pre)->G.get b=.cells (all.map tv)->b<G.n->(∀bo l c s z,vo=.slice bo l c s z->b≠bo)->∃G' vo',ah H G'/\AW H G' vo' (outs area all)/\∀(d:Nat)(kx:Nat->KE)(r:Nat)(e:Env),ps.length<r->af s000 e=.int 3 area->af s013 e=vo->af s055 e=.slice b 0 n 0 1->af s056 e=.int 3 n->af s057 e=.int 3 pre.length->∀x:R,(∀e',af s013 e'=vo'->kx 3 e' G'=x)->
  kq xD fuel (aS cp t fuel (d+1)) kx r e G=x:=by intro ps;induction ps with|nil=>
  intro pre G vo hal f hg hb hbn hbo;have hal':all=pre:=by rw[hal,YX]
  rw[<-hal']at hg;refine⟨G,vo,f,hg,λd kx r e hr h0 h13 h55 h56 h57 x hT=>?_⟩;obtain⟨r,rfl⟩:∃q,r=q+1:=⟨r-1,by simp only[YS]at hr;omega⟩;have hi:pre.length=n:=by rw[hn,hal']
  have e1:¬n<n:=by omega
  have e2:=n_ n;rw[ak];rw[hi]at h57;simp only[go_sem,xD,h56,h57,e1,e2];exact hT _ h13|cons p ps ih=>
  intro pre G vo hal f hg hb hbn hbo;have hw:=f.wf;have hlt:pre.length<n:=by rw[hn,hal];simp only[YB,YH];omega
  have e1:=n_ pre.length;have e2:=n_ n;have e3:=l_ pre.length;have hget:(all.map tv)[pre.length]?=some (tv p):=by rw[hal];simp
  have hnth:∀{id}{k},nth id (all.map tv) pre.length k=k (.str p.length (enc p)):=gY hget;have e9:=m_ (pre.length+1);have hat:∀{d}{k}{G},aj (aS cp t fuel (d+1)) (.func 168 []) [.int 3 area,.int 3 pre.length] G k=k (.int 3 (1+area*72+pre.length)) G:=λ{d k G}=>EL T ha (by omega);have hbG:¬b=G.n:=by omega
  have hos:=Pj area pre p;have hol:=qi area pre;have e20:2<=2:=YC _;have e21:=by omega
  rcases hg with⟨rfl,ho⟩|⟨bo,rfl,ho,hbo2,hbo3,hbo4⟩
  .have hp0:pre.length=0:=by rw[<-hol,ho];rfl
   have f2:ah H ((G.new (.cells [.int 3 (1+area*72+pre.length),.str p.length (enc p)])).new (.cells [.int 3 (1+area*72+pre.length),.str p.length (enc p)])):=(f.trans (ah.new hw)).trans (ah.new (by rw[Heap.aY];exact hw));have gn:((G.new (.cells [.int 3 (1+area*72+pre.length),.str p.length (enc p)])).new (.cells [.int 3 (1+area*72+pre.length),.str p.length (enc p)])).n=G.n+1+1:=by simp only[Heap.aK]
   obtain⟨G',vo',f',hg',hG'⟩:=ih (pre++[p]) _ (.slice (G.n+1) 0 1 0 2) (by rw[hal];simp) f2 (by refine YD ⟨G.n+1,by rw[hos,ho];rfl,by rw[hos];simp,?_,by have:=f.n;omega,by rw[gn];omega⟩;rw[Heap.aD (by rw[Heap.aY];exact hw),if_pos (by rw[Heap.aK]),hos,ho];rfl) (by rw[Heap.aD (by rw[Heap.aY];exact hw),if_neg (by rw[Heap.aK];omega),Heap.aD hw,if_neg hbG];exact hb) (by rw[gn];omega) (λbo l c s z he=>by cases he;omega);refine⟨G',vo',f',hg',λd kx r e hr h0 h13 h55 h56 h57 x hT=>?_⟩;obtain⟨r,rfl⟩:=s_ r;rw[ak];simp only[go_sem,↓dn,xD,h0,h13,h55,h56,h57,hlt,e1,e2,e3,e9,hb,hnth,hat,hw,e20];refine hG' d kx r _ (by simp only[YH]at hr;omega) ?_ ?_ ?_ ?_ ?_ x hT<;>simp only[go_sem,h0,h55,h56]
  .have hbb:=hbo bo _ _ _ _ rfl;have e4:¬bo=G.n:=by omega
   have e5:bo<G.n+1:=by omega
   have e6:pre.length+1<=1073741824:=by omega
   have e7:(bX (outs area pre)).length=pre.length*2:=by rw[dB,hol]
   have gn:(((G.new (.cells [.int 3 (1+area*72+pre.length),.str p.length (enc p)])).put bo .dead).new (.cells (bX (outs area pre)++[.int 3 (1+area*72+pre.length),.str p.length (enc p)]))).n=G.n+1+1:=by simp only[Heap.aK,Heap.aR]
   have w1:((G.new (.cells [.int 3 (1+area*72+pre.length),.str p.length (enc p)])).put bo .dead).wf:=by simp only[Heap.bu,Heap.aY,hw]
   have n1:((G.new (.cells [.int 3 (1+area*72+pre.length),.str p.length (enc p)])).put bo .dead).n=G.n+1:=by simp only[Heap.aK,Heap.aR]
   have f2:ah H (((G.new (.cells [.int 3 (1+area*72+pre.length),.str p.length (enc p)])).put bo .dead).new (.cells (bX (outs area pre)++[.int 3 (1+area*72+pre.length),.str p.length (enc p)]))):=(ah.put (f.trans (ah.new hw)) hbo3 (by rw[Heap.aK];omega)).trans (ah.new w1);obtain⟨G',vo',f',hg',hG'⟩:=ih (pre++[p]) _ (.slice (G.n+1) 0 (pre.length+1) 0 2) (by rw[hal];simp) f2 (by refine YD ⟨G.n+1,by rw[hos];simp[hol],by rw[hos];simp,?_,by omega,by omega⟩;rw[Heap.aD w1,if_pos n1.symm,hos,dY];rfl) (by rw[Heap.aD w1,if_neg (by omega),Heap.aC (by rw[Heap.aY];exact hw) (by rw[Heap.aK];omega),if_neg hbb,Heap.aD hw,if_neg hbG];exact hb) (by omega) (λbo l c s z he=>by cases he;omega);refine⟨G',vo',f',hg',λd kx r e hr h0 h13 h55 h56 h57 x hT=>?_⟩;obtain⟨r,rfl⟩:=s_ r;rw[hol]at h13;rw[ak];simp only[go_sem,↓dn,xD,h0,h13,h55,h56,h57,hlt,e1,e2,e3,e9,hb,hnth,hat,hw,e20,e4,e5,e6,e7,hbo2];refine hG' d kx r _ (by simp only[YH]at hr;omega) ?_ ?_ ?_ ?_ ?_ x hT<;>simp only[go_sem,h0,h55,h56]
theorem RO:∀(k m n)(s),n<256^k->(be m n s).length<=k+s.length
 |_,0,n,s,_=>by simp[be]|0,m+1,n,s,h=>by simp at h;subst h;simp[be]|k+1,m+1,n,s,h=>by
  simp only[be];split;.omega
  .have:=RO k m (n/256) (UInt8.ofNat (n%256)::s) (by omega);simp only[YH]at this;omega
theorem jP(k n)(h:n<256^k):(bJ n).length<=k+1:=by have:=RO k 8 n [] h;simp only[bJ,YH,YS]at*;omega
structure oI(ws:List Wr):Prop where num:ws.length<=60at_:∀w∈ws,w.1<65536len:∀w∈ws,w.2.1=32ok:∀w∈ws,tM w.2
theorem HI:∀(ws),(∀w∈ws,w.1<65536/\w.2.1=32)->(pt ws).length<=ws.length*37|[],_=>by simp[pt]|w::ws,h=>by obtain⟨h1,h2⟩:=h w (YM ..);have h3:=HI ws λv hv=>h v (YI _ hv);have:pt (w::ws)=AL w++pt ws:=rfl;rw[this];have p1:=jP 2 w.1 (by omega);have p2:=jP 1 w.2.1 (by omega);simp only[YB,YH,AL,lM];omega
theorem oI.text{ws:List Wr}(h:oI ws):(bV ws).length<=2240:=by have h1:=HI ws λw hw=>⟨h.at_ w hw,h.len w hw⟩;have p2:=jP 1 ws.length (by have:=h.num;omega);have h2:=h.num;simp only[bV,YB];omega
set_option maxRecDepth 8000in theorem HL(T:aB t){pk}{unpk}(F:bH pk unpk)(hp:t 110=some (.nat (dO pk))){area}{v}{O}{ws}(hw:H.wf)(ha:area<2)(hv:nN H v ws O)(hr:oI ws)(h0:ws≠[])(hfu:100<fuel):∃H' vo,(∀(d)(k),aj (aS cp t fuel (d+4)) (.func 222 []) [.int 3 area,v] H k=k (.cG [vo,.int 3 0]) H')/\ah H H'/\AW H H' vo (outs area (pk (bV ws))):=by
 rcases hv with⟨_,h⟩|⟨b,c,s,rfl,hb,hbn,_⟩;.exact absurd h h0
 have hnum:=hr.num;have htl:=hr.text;obtain⟨H1,hc1,f1⟩:=fj (cp:=cp) (fuel:=fuel) T (a:=[]) (n:=ws.length) hw (by simp) (by omega) (by omega);have hl1:=bP ws.length;obtain⟨H2,f2,hL⟩:=HM (cp:=cp) (fuel:=fuel) (c:=c) (s:=s) T (by omega) ((f1.same b hbn).trans hb) (YE hbn f1.n) rfl (by omega) (λw hw=>⟨by have:=hr.at_ w hw;omega,by have:=hr.len w hw;omega,hr.ok w hw⟩) ws [] (bJ ws.length) H1 rfl (by omega) (ah.refl f1.wf);have hw2:=f2.wf;have htx:bJ ws.length++pt ws=bV ws:=rfl;rw[htx]at hL;have hpk:=F.num _ htl;have hpl:∀{d}{k},aj (aS cp t fuel (d+1)) (.func 220 []) [.str (bV ws).length (enc (bV ws))] H2 k=k (.cG [.slice H2.n 0 (pk (bV ws)).length 0 1,.int 3 0]) (H2.new (.cells ((pk (bV ws)).map tv))):=λ{d k}=>by rw[mS hp rfl rfl];simp only[dO,YX,fW];rw[if_pos ⟨by omega,jj _⟩,cO hw2]
 generalize bV ws=tx at hL hpk hpl htl⊢;have f3:ah H (H2.new (.cells ((pk tx).map tv))):=(f1.trans f2).trans (ah.new hw2);obtain⟨H4,vo,f4,g4,hL2⟩:=DN (all:=pk tx) T ha rfl (by omega) (pk tx) [] (H2.new (.cells ((pk tx).map tv))) .aE rfl (ah.refl f3.wf) (YF ⟨rfl,rfl⟩) (by rw[Heap.aD hw2,if_pos rfl]) (by rw[Heap.aK];omega) (λ_ _ _ _ _ h=>by cases h);refine⟨H4,vo,λd k=>?_,f3.trans f4,?_⟩
 .have e1:=l_ ws.length;have e2:=m_ ws.length;have e3:=l_ ((pk tx).length);have e4:¬72<(pk tx).length:=by omega
  have n72:=n_ 72;have e5:=n_ ((pk tx).length);rw[show tv []=.str 0 0from rfl,YJ]at hc1;rw[ax T.afp rfl rfl];simp only[go_sem,ZE,aen,hc1,e1,e2];refine hL d _ fuel _ (.int 3 area) (by omega) ?_ ?_ ?_ ?_ ?_ _ (λe' g0 g6=>?_);.rfl
  .rfl
  .rfl
  .rfl
  .rfl
  .rw[show tv tx=.str tx.length (enc tx)from rfl]at g6;simp only[go_sem,g6,hpl,e3,e4,e5,n72];refine hL2 _ _ fuel _ (by omega) ?_ ?_ ?_ ?_ ?_ _ (λe'' g13=>?_);.simp only[go_sem,g0]
   .rfl
   .rfl
   .rfl
   .rfl
   .simp only[go_sem,g13]
 .rcases g4 with g|⟨b',g1,g2,g3,g4,g5⟩;.exact YF g
  .exact YD ⟨b',g1,g2,g3,Nat.le_trans f3.n g4,g5⟩
end
theorem cC:∀(es:List (Nat×Tx))(a)(v:Tx)(k),find (dh es a v) k=if k=a then some v else find es k
 |[],a,v,k=>by
  simp only[dh,find,Qc,List.find?_nil];by_cases h:k=a;.simp_all
  .have:(a==k)=false:=by simpa usingλe=>h e.symm
   simp[this,h]|p::es,a,v,k=>by
  have ih:=cC es a v k;simp only[dh];by_cases hp:p.1=a
  .rw[if_pos hp];simp only[find,Qc]at ih⊢;by_cases h:k=a;.simp_all
   .have:(p.1==k)=false:=by simpa usingλe=>h (e.symm.trans hp)
    simp[this,h]
  .rw[if_neg hp];simp only[find,Qc]at ih⊢;by_cases h:p.1=k;.simp_all
   .have h1:(p.1==k)=false:=by simp_all
    simp only[h1];omega
theorem vH{p q}{a}(hpq:∀k,q k=true->p k=true)(ha:p a=true)(hqa:q a=false):∀{K:List Nat},a∈K->K.countP q+1<=K.countP p
 |[],h=>by cases h|b::K,h=>by
  have hle:K.countP q<=K.countP p:=YM2 λk _ hk=>hpq k hk;simp only[List.countP_cons];by_cases hb:b=a;.simp_all
  .have h':a∈K:=by
    rcases YN.1 h with e|h;.omega
    omega
   have ih:=vH hpq ha hqa h';by_cases hq:q b=true;.simp_all
   .rw[if_neg hq];omega
theorem HQ{room}{K ns:List Nat}:∀{ws}{es:List (Nat×Tx)},(∀w∈ws,w.1∈ns)->(∀n∈ns,(find es n).isSome=true\/n∈K)->(K=[]\/es.length+K.countP (λk=>(find es k).isNone)<=room)->roomy room es ws
 |[],_,_,_,_=>trivial|w::ws,es,hw,hn,hK=>by
  have hwn:=hw w (YM ..);have hn':∀n∈ns,(find (dh es w.1 w.2) n).isSome=true\/n∈K:=λn h=>by
   rw[cC];split;.simp
   simp_all
  refine⟨?_,HQ (λv hv=>hw v (YI _ hv)) hn' ?_⟩
  .by_cases hs:(find es w.1).isSome=true;.simp_all
   .have hk:=(hn w.1 hwn).resolve_left hs;rcases hK with rfl|hK;.cases hk
    .have h1:(find es w.1).isNone=true:=by simp_all
     have:0<K.countP (λk=>(find es k).isNone):=List.countP_pos_iff.2 ⟨w.1,hk,h1⟩;omega
  .rcases hK with hK|hK;.simp_all
   .rw[mb];by_cases hs:(find es w.1).isSome=true
    .rw[if_pos hs];have:K.countP (λk=>(find (dh es w.1 w.2) k).isNone)<=K.countP (λk=>(find es k).isNone):=YM2 λk _ hk=>by
      rw[cC]at hk;split at hk;.cases hk
      omega
     omega
    .rw[if_neg hs];have hk:=(hn w.1 hwn).resolve_left hs;have h1:(find es w.1).isNone=true:=by simp_all
     have:=vH (p:=λk=>(find es k).isNone) (q:=λk=>(find (dh es w.1 w.2) k).isNone) (λk hk=>by
      rw[cC]at hk;split at hk;.cases hk
      omega) h1 (by rw[cC,if_pos rfl];rfl) hk;omega
theorem qd:∀(D)(a v k),k∈(tW D a v).map (·.1)↔k=a\/k∈D.map (·.1)
 |[],a,v,k=>by simp[tW]|p::D,a,v,k=>by
  have ih:=qd D a v k;simp only[tW];split;.simp_all
  .simp only[YP,YN,ih];constructor
   .rintro(h1|h1|h1);.omega
    .omega
    simp_all
   .rintro(h1|h1|h1);.omega
    .omega
    simp_all
theorem yu{es:List (Nat×Tx)}{ns}:∀(m),∀i,i<m->(find es (ns.getD i 0)).isSome=false->ns.getD i 0∈(vN es ns m).map (·.1)
 |0,i,h,_=>by omega|m+1,i,h,hn=>by
  simp only[vN];by_cases hi:i=m;.subst hi;rw[if_neg (by simp_all),xO,qd];simp
  .have ih:=yu m i (by omega) hn;split;.omega
   .rw[xO,qd];simp_all
def AD.fits(A:AD)(ns:List Nat):Bool:=decide ((vN A.es ns ns.length).length=0\/A.es.length+(vN A.es ns ns.length).length<=A.room)
theorem JV{A:AD}{ns}{ws}(h:A.fits ns=true)(hw:∀w∈ws,w.1∈ns):roomy A.room A.es ws:=by
 have h:=of_decide_eq_true h;refine HQ (K:=(vN A.es ns ns.length).map (·.1)) hw (λn hn=>?_) ?_
 .obtain⟨i,hi,rfl⟩:=List.mem_iff_getElem.1 hn;have hg:ns.getD i 0=ns[i]:=by simp_all
  by_cases hs:(find A.es ns[i]).isSome=true;.simp_all
  .have:=yu ns.length i hi (by rw[hg];simpa using hs);simp_all
 .rcases h with h|h;.simp_all
  .have:=List.countP_le_length (p:=λk=>(find A.es k).isNone) (l:=(vN A.es ns ns.length).map (·.1));rw[Yg]at this;omega
def wI(ns:List Nat):List V:=ns.map (V.int 3)
def IW(H G:Heap)(v:V)(ns:List Nat):Prop:=∃b c s,v=.slice b 0 ns.length c s/\((c=2/\ns.length=1)\/(c=0/\s=1))/\G.get b=.cells (wI ns)/\H.n<=b/\b<G.n
section
variable{cp:RC->au}{t:Nat->Option du}{fuel:Nat}{H:Heap}
set_option maxRecDepth 4000in theorem HE(T:aB t){b c s n:Nat}{all:List Wr}(hn:n=all.length)(hnb:n<10000)(e6':n<10000):∀(ws pre:List Wr)(ns:List Nat)(G:Heap)(vp:V),all=pre++ws->ns.length+ws.length<20000->ah H G->IW H G vp ns->G.get b=.cells (bX all)->b<G.n->(∀bo l c s z,vp=.slice bo l c s z->b≠bo)->∃G' vp',ah H G'/\IW H G' vp' (ns++ws.map (·.1))/\∀(d:Nat)(kx:Nat->KE)(r:Nat)(e:Env)(v0 v1 v6 v11:V),ws.length<r->af s000 e=v0->af s001 e=v1->af s006 e=v6->af s011 e=v11->af s012 e=vp->af s071 e=.slice b 0 n c s->af s072 e=.int 3 n->af s073 e=.int 3 pre.length->∀x:R,(∀e',af s000 e'=v0->af s001 e'=v1->af s006 e'=v6->af s011 e'=v11->af s012 e'=vp'->kx 1 e' G'=x)->
  kq Fi fuel (aS cp t fuel d) kx r e G=x:=by intro ws;induction ws with|nil=>
  intro pre ns G vp hal hnl f hg hb hbn hbo;refine⟨G,vp,f,by simpa using hg,λd kx r e v0 v1 v6 v11 hr h0 h1 h6 h11 h12 h71 h72 h73 x hT=>?_⟩;obtain⟨r,rfl⟩:∃q,r=q+1:=⟨r-1,by simp only[YS]at hr;omega⟩;have hi:pre.length=n:=by rw[hn,hal,YX]
  have e1:¬n<n:=by omega
  have e2:=n_ n;rw[ak];rw[hi]at h73;simp only[go_sem,Fi,h72,h73,e1,e2];refine hT _ ?_ ?_ ?_ ?_ ?_<;>simp only[go_sem,h0,h1,h6,h11,h12]|cons w ws ih=>
  intro pre ns G vp hal hnl f hg hb hbn hbo;simp only[YH]at hnl;have hw:=f.wf;have hlt:pre.length<n:=by rw[hn,hal];simp only[YB,YH];omega
  have e1:=n_ pre.length;have e2:=n_ n;have e3:=l_ pre.length;have e4:pre.length*2<=(bX all).length:=by rw[dB,<-hn];omega
  have hd:(bX all).drop (pre.length*2)=.int 3 w.1::.str w.2.1 w.2.2::bX ws:=by rw[hal,qL];rfl
  have e5:=by omega
  have e9:=m_ (pre.length+1);obtain⟨bo,co,so,rfl,hcs,hbo2,hbo3,hbo4⟩:=hg;have hbb:=hbo bo _ _ _ _ rfl;have e8:G.n<G.n+1:=by omega
  have e10:¬bo=G.n:=by omega
  have e11:¬bo=G.n+1:=by omega
  have e12:bo<G.n+1+1:=by omega
  have e13:¬b=G.n:=by omega
  have e14:¬b=G.n+1:=by omega
  have e15:ns.length+1<=1073741824:=by omega
  have e16:(wI ns).length=ns.length:=by simp[wI]
  have hw1:((G.new (.cells [.int 3 0,.str 0 0])).put G.n (.cells [.int 3 w.1,.str w.2.1 w.2.2])).wf:=by simp only[Heap.bu,Heap.aY,hw]
  have f1:ah H (((G.new (.cells [.int 3 0,.str 0 0])).put G.n (.cells [.int 3 w.1,.str w.2.1 w.2.2])).new (.cells [.int 3 w.1])):=(ah.put (f.trans (ah.new hw)) f.n (by simp only[Heap.aK];omega)).trans (ah.new hw1);have hns:ns++(w::ws).map (·.1)=(ns++[w.1])++ws.map (·.1):=by simp
  rw[hns];have e20:=by omega
  rcases hcs with⟨rfl,hl1⟩|⟨rfl,rfl⟩
  .have hone:∀{id}{k},bB id (wI ns) k=k:=λ{id k}=>by obtain⟨q,rfl⟩:∃q,ns=[q]:=List.length_eq_one_iff.1 hl1;rfl
   have e17:=Yk (by rw[e16];exact YC _);have e18:ns.length<=(wI ns).length:=by rw[e16];exact YC _
   have f2:=f1.trans (ah.new (x:=.cells (wI ns++[.int 3 w.1])) f1.wf);obtain⟨G',vp',f',hg',hG'⟩:=ih (pre++[w]) (ns++[w.1]) _ (.slice (G.n+1+1) 0 (ns.length+1) 0 1) (by rw[hal];simp) (by simp only[YB,YH,YS];omega) f2 (by refine⟨G.n+1+1,0,1,by simp,YD ⟨rfl,rfl⟩,?_,by omega,by simp only[Heap.aK,Heap.aR];omega⟩;simp only[Heap.aD,Heap.bu,Heap.aY,Heap.aR,Heap.aK,hw,if_true,wI,Yz,YP,YZ]) (by
     have e30:¬b=G.n+1+1:=by omega
     simp only[Heap.aC,Heap.aD,Heap.bu,Heap.aY,Heap.aR,Heap.aK,hw,e8,e13,e14,e30,if_false,hb]) (by simp only[Heap.aK,Heap.aR];omega) (λbo l c s z he=>by cases he;omega);refine⟨G',vp',f',hg',λd kx r e v0 v1 v6 v11 hr h0 h1 h6 h11 h12 h71 h72 h73 x hT=>?_⟩;obtain⟨r,rfl⟩:=s_ r;have e19:1<ns.length+1:=by omega
   have hgrow:∀{id}{H}{new}{k},sW id 1 1 new bo 0 ns.length 2 so H k=bB id new (if ns.length+1<=1073741824then fi id H bo 0 (ns.length*1) λl=>bB id l (cN H (.cells (l++new)) λb' H=>k (.slice b' 0 (ns.length+1) 0 1) H)else no 0):=λ{id H new k}=>jb e19;rw[ak];simp only[go_sem,↓dn,Fi,h12,h71,h72,h73,hlt,e1,e2,e3,e4,hd,e8,e9,e10,e11,hb,hw,hgrow,hbo2,e15,e17,e18,hone];refine hG' d kx r _ v0 v1 v6 v11 (by simp only[YH]at hr;omega) ?_ ?_ ?_ ?_ ?_ ?_ ?_ ?_ x hT<;>simp only[go_sem,h0,h1,h6,h11,h71,h72]
  .have f2:=(f1.put (x:=.dead) hbo3 (by simp only[Heap.aK,Heap.aR];omega)).trans (ah.new (x:=.cells (wI ns++[.int 3 w.1])) (by simp only[Heap.bu];exact f1.wf));obtain⟨G',vp',f',hg',hG'⟩:=ih (pre++[w]) (ns++[w.1]) _ (.slice (G.n+1+1) 0 (ns.length+1) 0 1) (by rw[hal];simp) (by simp only[YB,YH,YS];omega) f2 (by refine⟨G.n+1+1,0,1,by simp,YD ⟨rfl,rfl⟩,?_,by omega,by simp only[Heap.aK,Heap.aR];omega⟩;simp only[Heap.aD,Heap.bu,Heap.aY,Heap.aR,Heap.aK,hw,if_true,wI,Yz,YP,YZ]) (by
     have e30:¬b=G.n+1+1:=by omega
     have e31:=hbb;simp only[Heap.aC,Heap.aD,Heap.bu,Heap.aY,Heap.aR,Heap.aK,hw,e8,e12,e13,e14,e30,e31,if_false,hb]) (by simp only[Heap.aK,Heap.aR];omega) (λbo l c s z he=>by cases he;omega);refine⟨G',vp',f',hg',λd kx r e v0 v1 v6 v11 hr h0 h1 h6 h11 h12 h71 h72 h73 x hT=>?_⟩;obtain⟨r,rfl⟩:=s_ r;rw[ak];simp only[go_sem,↓dn,Fi,h12,h71,h72,h73,hlt,e1,e2,e3,e4,hd,e8,e9,e10,e11,e12,hb,hw,hbo2,e15,e16];refine hG' d kx r _ v0 v1 v6 v11 (by simp only[YH]at hr;omega) ?_ ?_ ?_ ?_ ?_ ?_ ?_ ?_ x hT<;>simp only[go_sem,h0,h1,h6,h11,h71,h72]
end
def AD.dm(A:AD)(pk:List UInt8->List (List UInt8))(a:Nat)(ws:List Wr):AD×Nat:=if A.off=true then(A,6)else if ws.length=0then(A,0)else if 60<ws.length then(A,3)else if gm A.len [] ws=false then(A,2)else if A.fits (0::(outs (1-a) (pk (bV ws))++ws).map (·.1))=true then A.runs [outs (1-a) (pk (bV ws)),[(0,tx (fF (1-a) (pk (bV ws)).length))],ws]else(A,7)
theorem eV:∀{ws}{len}{seen},gm len seen ws=true->(∀w∈ws,rz len w/\w.1∉seen)/\(ws.map (·.1)).Nodup
 |[],_,_,_=>⟨λ_ h=>(by cases h),List.nodup_nil⟩|w::ws,len,seen,h=>by
  simp only[gm]at h;split at h
  .obtain⟨h1,h2⟩:=eV h;refine⟨λv hv=>?_,?_⟩
   .rcases YN.1 hv with rfl|hv;.omega
    .exact⟨(h1 v hv).1,λhs=>(h1 v hv).2 (by simp_all)⟩
   .rw[YP,List.nodup_cons];refine⟨λhm=>?_,h2⟩;obtain⟨v,hv,he⟩:=YW.1 hm;exact(h1 v hv).2 (by simp_all)
  simp_all
theorem tN{area}{ps}{w}(h:w∈outs area ps):∃i,∃h':i<ps.length,w=(1+area*72+i,tx ps[i]):=by simp only[outs,List.mem_mapIdx]at h;obtain⟨i,hi,rfl⟩:=h;simp_all
theorem pE:∀{ws}{id}{k},bB id (bX ws) k=k|[],_,_=>rfl|w::ws,id,k=>by rw[Bu,lW,lW,BL,BN];exact pE
section
variable{cp:RC->au}{t:Nat->Option du}{fuel:Nat}{H:Heap}
theorem T6(T:jW t){p b c s}{A}{O}{ns}(hD:cB H p A O)(ho:A.off=false)(hb:H.get b=.cells (wI ns))(hbn:b<H.n)(hns:∀v∈ns,v<A.len)(hnb:ns.length<1000000)(heb:A.es.length<1000000)(hfu:ns.length<fuel):∃H',(∀(d)(k),aj (aS cp t fuel (d+5)) (.func 224 []) [.ptr p 0,.slice b 0 ns.length c s] H k=k (.bool (A.fits ns)) H')/\ah H H':=by obtain⟨D,h,h1,h2,h3,h4,rfl⟩:=hD;obtain⟨H',g1,g2,g3,g4,g5⟩:=OB (off:=0) T.toTDisk3 h.wf h.hp h.hg h.hm h.nX hb hbn (h4.trans ho) h.hl h.hr (by simp[wI]) (λi v hv=>by simp[wI,hv]) (λv hv=>by simp_all) hnb heb hfu;refine⟨H',λd k=>?_,g2,g3,g4,g5⟩;rw[g1,h2];rfl
structure mK(A:AD)(a n:Nat):Prop where
 lo:145<=A.len
 hi:A.len<=1024
 es:A.es.length<100000us:A.us.length<50000head:A.read 0=tx (fF a n)a:a<2n:n<=72
theorem CK(T:aB t)(hc:aM t){pk}{p a}{A}{O}{v}{ws}(hD:cB H p A O)(hl:A.len<=1024)(hv:nN H v ws O)(hws:∀w∈ws,w.1<18446744073709551616/\w.2.1<1000000)(hnb:ws.length<10000)(hfu:ws.length<fuel)(h:A.off=true\/ws.length=0\/60<ws.length\/gm A.len [] ws=false):∃H',(∀(d)(k),aj (aS cp t fuel (d+7)) (.func 128 []) [.ptr p 0,v] H k=k (.int 3 (A.dm pk a ws).2) H')/\ah H H'/\(A.dm pk a ws).1=A:=by
 have hw:=hD.wf;have hr:∀{d}{k},aj (aS cp t fuel (d+3)) (.func 162 []) [.ptr p 0] H k=k (.int 3 (if A.off=true then 6 else 0)) H:=λ{d k}=>om T hc hD;obtain⟨H1,hm,f1⟩:=yR (cp:=cp) T hc hD (by unfold nn;omega) hv hws (by omega) hfu;have e1:=l_ ws.length;have n60:=n_ 60;have nl:=n_ ws.length;have hr2:∀{d}{k},aj (aS cp t fuel (d+1+1+1)) (.func 162 []) [.ptr p 0] H k=k (.int 3 (if A.off=true then 6 else 0)) H:=λ{d k}=>hr;unfold AD.dm;by_cases ho:A.off=true;.refine⟨H,λd k=>?_,ah.refl hw,by rw[if_pos ho]⟩;rw[if_pos ho,ax T.k64 rfl rfl];rw[ho]at hr;simp only[go_sem,c64,hr]
 .simp only[ho,if_false,false_or,Bool.false_eq_true]at h hr⊢;rcases hv with⟨rfl,rfl⟩|⟨b,c,s,rfl,hb,hbn,hbO⟩;.refine⟨H,λd k=>?_,ah.refl hw,by simp⟩;rw[ax T.k64 rfl rfl];simp only[go_sem,ZE,c64,hr]
  .by_cases h0:ws.length=0;.refine⟨H,λd k=>?_,ah.refl hw,by rw[if_pos h0]⟩;rw[ax T.k64 rfl rfl];simp only[go_sem,ZE,c64,hr,h0]
   .simp only[h0,if_false,false_or]at h⊢;by_cases h6:60<ws.length;.refine⟨H,λd k=>?_,ah.refl hw,by rw[if_pos h6]⟩;rw[ax T.k64 rfl rfl];simp only[go_sem,c64,hr,h0,e1,n60,nl,h6]
    .simp only[h6,if_false,false_or]at h⊢;refine⟨H1,λd k=>?_,f1,by rw[if_pos h]⟩;rw[ax T.k64 rfl rfl];have hm':=λ{d}{k}=>hm (d+4) k;simp only[go_sem,c64,hr,h0,e1,n60,nl,h6,hm',h]
set_option maxRecDepth 8000in theorem vF(T:aB t)(hc:aM t){pk:List UInt8->List (List UInt8)}{unpk:List (List UInt8)->Option (List UInt8)}(F:bH pk unpk)(hp:t 110=some (.nat (dO pk))){p a n:Nat}{A:AD}{O:Nat->Prop}{v:V}{ws:List Wr}(hD:cB H p A O)(C:mK A a n)(hv:nN H v ws O)(hws:∀w∈ws,w.1<18446744073709551616/\w.2.1<1000000/\tM w.2)(hnb:ws.length<10000)(hfu:10000<fuel):∃H' O',(∀(d:Nat)(k:K),aj (aS cp t fuel (d+7)) (.func 128 []) [.ptr p 0,v] H k=k (.int 3 (A.dm pk a ws).2) H')/\Step H O H' O'/\cB H' p (A.dm pk a ws).1 O':=by
 by_cases hsm:A.off=true\/ws.length=0\/60<ws.length\/gm A.len [] ws=false;.obtain⟨H',g1,g2,g3⟩:=CK (fuel:=fuel) T hc hD C.hi hv (λw hw=>⟨(hws w hw).1,(hws w hw).2.1⟩) hnb (by omega) hsm;exact⟨H',O,g1,g2.step,by rw[g3];exact hD.fresh g2⟩
 .have ho:A.off=false:=by cases h:A.off with|true=>exact absurd (YF h) hsm|false=>rfl
  have h0:¬ws.length=0:=λh=>hsm (YD (YF h));have h6:¬60<ws.length:=λh=>hsm (YD (YD (YF h)));have hmay:gm A.len [] ws=true:=by cases h:gm A.len [] ws with|false=>exact absurd (YD (YD (YD h))) hsm|true=>rfl
  have hcm:A.dm pk a ws=if A.fits (0::(outs (1-a) (pk (bV ws))++ws).map (·.1))=true then A.runs [outs (1-a) (pk (bV ws)),[(0,tx (fF (1-a) (pk (bV ws)).length))],ws]else(A,7):=by unfold AD.dm;rw[if_neg (by rw[ho];exact Bool.false_ne_true),if_neg h0,if_neg h6,if_neg (by rw[hmay];exact Bool.noConfusion)]
  obtain⟨k1,k2,k3,k4,k5,k6,k7⟩:=C;obtain⟨hgood,_⟩:=eV hmay;have hne:ws≠[]:=λh=>h0 (by rw[h];rfl);have hrec:oI ws:=⟨by omega,λw hw=>by have:=(hgood w hw).1.2.1;omega,λw hw=>(hgood w hw).1.2.2,λw hw=>(hws w hw).2.2⟩;have htl:=hrec.text;have hpkn:=F.num _ htl;have hpkp:=F.pos (bV ws) (by omega);have hpkl:=F.len (bV ws) (by omega);have hw:=hD.wf;have ha1:1-a<2:=by omega
  have hr:∀{d}{k},aj (aS cp t fuel (d+3)) (.func 162 []) [.ptr p 0] H k=k (.int 3 0) H:=λ{d k}=>by rw[om T hc hD,ho];rfl
  obtain⟨H1,hm1,f1⟩:=yR (cp:=cp) (fuel:=fuel) T hc hD (by unfold nn;omega) hv (λw hw=>⟨(hws w hw).1,(hws w hw).2.1⟩) (by omega) (by omega);rw[hmay]at hm1;obtain⟨H2,hh2,f2⟩:=BH (cp:=cp) (fuel:=fuel) T hc (hD.fresh f1) ho (by omega) k5 k6 k7 (by omega);have f12:=f1.trans f2;obtain⟨H3,vo,hr3,f3,g3⟩:=HL (cp:=cp) (fuel:=fuel) T F hp f2.wf ha1 (hv.fresh f12) hrec hne (by omega);have f13:=f12.trans f3;have hol:=qi (1-a) (pk (bV ws));have hmem:∀w∈outs (1-a) (pk (bV ws)),w.1<145/\w.2.1=32:=λw hw=>by obtain⟨i,hi,rfl⟩:=tN hw;refine⟨by show 1+(1-a)*72+i<145;omega,hpkl _ (List.getElem_mem hi)⟩
  generalize hfi:outs (1-a) (pk (bV ws))=first at hcm g3 hol hmem;generalize hm:(pk (bV ws)).length=m at hcm hpkn hol;have hfne:first≠[]:=λh=>by
   rw[h]at hol;have hm0:(pk (bV ws)).length=0:=by rw[hm];exact hol.symm
   exact hpkp (YY hm0)
  have hm0:=λh=>hfne (YY (hol.trans h));obtain⟨bo,rfl,hbo2,hbo3,hbo4⟩:∃bo,vo=.slice bo 0 m 0 2/\H3.get bo=.cells (bX first)/\H2.n<=bo/\bo<H3.n:=by
   rcases g3 with⟨_,h⟩|⟨bo,h1,h2,h3,h4,h5⟩;.exact absurd h hfne
   .exact⟨bo,by rw[h1,hol],h3,h4,h5⟩
  have hboO:¬O bo:=λh=>by have:=hD.lt bo h;have:=f12.n;omega
  obtain⟨b,c,s,rfl,hb,hbn,hbO⟩:∃b c s,v=.slice b 0 ws.length c s/\H.get b=.cells (bX ws)/\b<H.n/\¬O b:=by
   rcases hv with⟨_,h⟩|h;.exact absurd h hne
   .exact h
  have hv3:nN H (.slice b 0 ws.length c s) ws O:=YD ⟨b,c,s,rfl,hb,hbn,hbO⟩;have hw3:=f3.wf;have f4:ah H ((H3.new (.cells [.int 3 0])).new (.cells (bX first++bX ws))):=(f13.trans (ah.new hw3)).trans (ah.new (by rw[Heap.aY];exact hw3));generalize hH4:(H3.new (.cells [.int 3 0])).new (.cells (bX first++bX ws))=H4 at f4;have f34:ah H3 H4:=by rw[<-hH4];exact(ah.new hw3).trans (ah.new (by rw[Heap.aY];exact hw3))
  have h4n:H4.n=H3.n+1+1:=by rw[<-hH4];simp only[Heap.aK]
  have h4a:H4.get H3.n=.cells [.int 3 0]:=by rw[<-hH4,Heap.aD (by rw[Heap.aY];exact hw3),if_neg (by rw[Heap.aK];omega),Heap.aD hw3,if_pos rfl]
  have h4b:H4.get (H3.n+1)=.cells (bX (first++ws)):=by rw[<-hH4,Heap.aD (by rw[Heap.aY];exact hw3),if_pos (by rw[Heap.aK]),dY]
  have hpl4:IW H3 H4 (.slice H3.n 0 1 2 0) [0]:=⟨H3.n,2,0,rfl,YF ⟨rfl,rfl⟩,h4a,YC _,by omega⟩;obtain⟨H5,vp,f35,⟨bp,cp5,sp5,rfl,_,hp2,hp3,hp4⟩,hL⟩:=HE (cp:=cp) (fuel:=fuel) (c:=0) (s:=2) (all:=first++ws) T rfl (by rw[YB];omega) (by rw[YB];omega) (first++ws) [] [0] H4 (.slice H3.n 0 1 2 0) rfl (by rw[YB];simp only[YH,YS];omega) f34 hpl4 h4b (by omega) (λbo l c s z he=>by cases he;omega);have f5:=f13.trans f35;have hnsl:([0]++(first++ws).map (λw:Wr=>w.1)).length=m+ws.length+1:=by simp only[YB,Yg,YH,YS];omega
  obtain⟨H6,hf6,f56⟩:=T6 (cp:=cp) (fuel:=fuel) (c:=cp5) (s:=sp5) (T.jJ hc) (hD.fresh f5) ho hp2 hp4 (λx hx=>by
   simp only[YL,YJ,YN,Yz,Yl,YW]at hx;rcases hx with rfl|⟨w,hw,rfl⟩|⟨w,hw,rfl⟩;.omega
   .have:=(hmem w hw).1;omega
   .exact(hgood w hw).1.2.1) (by rw[hnsl];omega) (by omega) (by rw[hnsl];omega);have f6:=f5.trans f56;have f36:=f35.trans f56;have hfirst:nN H3 (.slice bo 0 m 0 2) first O:=YD ⟨bo,0,2,by rw[hol],hbo2,hbo4,hboO⟩;obtain⟨H7,F1,ha7,f67,hA1⟩:=pF (cp:=cp) (fuel:=fuel) T (p:=p) f6.wf (λx hx=>YE (hD.lt x hx) f6.n) (hfirst.fresh f36);have f7:=f6.trans f67;obtain⟨H8,hh8,f78⟩:=pU (cp:=cp) (fuel:=fuel) T f7.wf ha1 hpkn (by omega);have f8:=f7.trans f78;have hw8:=f8.wf;have hhl:=nW (1-a) m;rw[show tv (fF (1-a) m)=.str 32 (enc (fF (1-a) m))by rw[tv,hhl]]at hh8;have f89:ah H8 (H8.new (.cells [.int 3 0,.str 32 (enc (fF (1-a) m))])):=ah.new hw8;have h9b:(H8.new (.cells [.int 3 0,.str 32 (enc (fF (1-a) m))])).get H8.n=.cells [.int 3 0,.str 32 (enc (fF (1-a) m))]:=by rw[Heap.aD hw8,if_pos rfl]
  have h9n:(H8.new (.cells [.int 3 0,.str 32 (enc (fF (1-a) m))])).n=H8.n+1:=Heap.aK;generalize hH9:H8.new (.cells [.int 3 0,.str 32 (enc (fF (1-a) m))])=H9 at f89 h9b h9n;have f9:=f8.trans f89;have hhd:nN H9 (.slice H8.n 0 1 2 0) [(0,tx (fF (1-a) m))] O:=YD ⟨H8.n,2,0,rfl,by rw[h9b];simp only[bX,Wa,QL,aba,tx,hhl,YX],by omega,λh=>by have:=hD.lt _ h;have:=f8.n;omega⟩;obtain⟨H10,F2,ha10,f910,hA2⟩:=pF (cp:=cp) (fuel:=fuel) T (p:=p) f9.wf (λx hx=>YE (hD.lt x hx) f9.n) hhd;have f10:=f9.trans f910;obtain⟨H11,F3,ha11,f1011,hA3⟩:=pF (cp:=cp) (fuel:=fuel) T (p:=p) f10.wf (λx hx=>YE (hD.lt x hx) f10.n) (hv3.fresh f10);have f11:=f10.trans f1011;have hw11:=f11.wf;have f1112:ah H11 (H11.new (.cells [F1,F2,F3])):=ah.new hw11;have hA1':=hA1.bU ((((f78.trans f89).trans f910).trans f1011).trans f1112).step;have hA2':=hA2.bU (f1011.trans f1112).step;have hA3':=hA3.bU f1112.step;have f12':=f11.trans f1112;have fin:A.fits (0::(first++ws).map (·.1))=true->∃H' O',(∀(d)(k),aj (aS cp t fuel (d+5)) (.func 176 []) [.slice H11.n 0 3 4 0] (H11.new (.cells [F1,F2,F3])) k=k (.int 3 (A.runs [first,[(0,tx (fF (1-a) m))],ws]).2) H')/\Step H O H' O'/\cB H' p (A.runs [first,[(0,tx (fF (1-a) m))],ws]).1 O':=λhfit=>by
   obtain⟨H',O',g1,g2,g3⟩:=zG (fs:=[(F1,first),(F2,[(0,tx (fF (1-a) m))]),(F3,ws)]) T hc (hD.fresh f12') (by
    refine⟨ho,λus hus=>?_,?_,λus hus w hw=>?_,JV hfit λw hw=>?_⟩
    .simp only[YP,YZ,YN,Wf,or_false]at hus;rcases hus with rfl|rfl|rfl;.omega
     .simp only[YH,YS];omega
     .omega
    .simp only[YP,YZ,WL,Qf,YB,YH,YS];omega
    .simp only[YP,YZ,YN,Wf,or_false]at hus;rcases hus with rfl|rfl|rfl;.have:=hmem w hw;exact⟨by omega,this.2⟩
     .rw[YK.1 hw];exact⟨by show 0<A.len;omega,hhl⟩
     .exact⟨(hgood w hw).1.2.1,(hgood w hw).1.2.2⟩
    .simp only[YP,YZ,WL,Qf,YX,Yl,YK]at hw;simp only[YN,YW,Yl];rcases hw with hw|rfl|hw;.exact YD ⟨w,YF hw,rfl⟩
     .exact YF rfl
     .exact YD ⟨w,YD hw,rfl⟩) (λf hf=>by
    simp only[YN,Wf,or_false]at hf;rcases hf with rfl|rfl|rfl;.exact⟨hA1',by show first.length<10000;omega,by show first.length<fuel;omega⟩
    .exact⟨hA2',by show 1<10000;omega,by show 1<fuel;omega⟩
    .exact⟨hA3',by show ws.length<10000;omega,by show ws.length<fuel;omega⟩) (by rw[Heap.aD hw11,if_pos rfl];rfl) (by rw[Heap.aK];omega) (λh=>by have:=hD.lt _ h;have:=f11.n;omega) (by simp) (by simp only[YH,YS];omega);exact⟨H',O',g1,f12'.step.trans g2,g3⟩
  obtain⟨B10,B11,B12,v1,rfl,_⟩:=hA1;obtain⟨B20,B21,B22,v2,rfl,_⟩:=hA2;obtain⟨B30,B31,B32,v3,rfl,_⟩:=hA3;clear hA1' hA2' hA3';have e1:=l_ ws.length;have n60:=n_ 60;have nl:=n_ ws.length;have e2:(1+(18446744073709551616-a))%18446744073709551616=1-a:=by omega
  have e3:=l_ m;have e4:bo≠H3.n:=by omega
  have e5:b≠H3.n:=by have:=f13.n;omega
  have e6:¬m=0:=hm0;have hb3:H3.get b=.cells (bX ws):=(f13.same b hbn).trans hb;have e7:ws.length*2<=(bX ws).length:=by rw[dB];exact YC _
  have e8:(bX ws).take (ws.length*2)=bX ws:=Yk (by rw[dB];exact YC _);have e9:m*2<=(bX first).length:=by rw[dB,hol];exact YC _
  have e10:(bX first).take (m*2)=bX first:=Yk (by rw[dB,hol];exact YC _);have e11:m<m+ws.length:=by omega
  have e12:m+ws.length<=1073741824:=by omega
  have e13:=l_ (m+ws.length);have e14:m-0+1=m+1:=by omega
  have hgrow:∀{id}{G}{new}{k},sW id 2 ws.length new bo 0 m (m+1) 0 G k=bB id new (if m+ws.length<=1073741824then fi id G bo 0 (m*2) λl=>bB id l (cN G (.cells (l++new)) λb' G=>k (.slice b' 0 (m+ws.length) 0 2) G)else no 0):=λ{id G new k}=>jb e11;have hal:(first++ws).length=m+ws.length:=by rw[YB,hol]
  rw[hal]at hL;have hm1':=λ{d}{k}=>hm1 (d+4) k;have hh2':=λ{d}{k}=>hh2 (d+1) k;have hr3':=λ{d}{k}=>hr3 (d+2) k;have hlq:([0]++(first++ws).map (λw:Wr=>w.1)).length=first.length+ws.length+1:=by simp only[YB,Yg,YH,YS];omega
  rw[hlq]at hf6;have hf6':=λ{d}{k}=>hf6 (d+1) k;have ha7':=λ{d}{k}=>ha7 (d+5) k;have hh8':=λ{d}{k}=>hh8 (d+3) k;have ha10':=λ{d}{k}=>ha10 (d+5) k;have ha11':=λ{d}{k}=>ha11 (d+5) k;rw[hcm];by_cases hfit:A.fits (0::(first++ws).map (·.1))=true
  .obtain⟨H',O',g1,g2,g3⟩:=fin hfit;rw[if_pos hfit];refine⟨H',O',λd k=>?_,g2,g3⟩;have g1':=λ{d}{k}=>g1 (d+1) k;have hfit':A.fits (0::(first++ws).map (·.1))=true:=hfit;rw[ax T.k64 rfl rfl];simp only[go_sem,↓dn,ZE,c64,hr,h0,h6,e1,n60,nl,hm1',hh2',hr3',e2,e3,e6,hw3,hbo2,hb3,e4,e5,e7,e8,hgrow,pE,e9,e10,e12,e13,hH4,Wx];refine hL _ _ fuel _ (.ptr p 0) (.slice b 0 ws.length c s) (.int 3 a) (.slice bo 0 m 0 2) (by omega) ?_ ?_ ?_ ?_ ?_ ?_ ?_ ?_ _ (λe' q0 q1 q6 q11 q12=>?_);.rfl
   .rfl
   .rfl
   .rfl
   .rfl
   .rfl
   .rfl
   .rfl
   .simp only[go_sem,q0,q1,q6,q11,q12,hf6',hfit',ha7',e2,e3,hh8',hw8,hH9,ha10',ha11',hw11,g1']
  .rw[if_neg hfit];have hfit':A.fits (0::(first++ws).map (·.1))=false:=by cases h:A.fits (0::(first++ws).map (·.1))with|true=>exact absurd h hfit|false=>rfl
   refine⟨H6,O,λd k=>?_,f6.step,hD.fresh f6⟩;rw[ax T.k64 rfl rfl];simp only[go_sem,↓dn,ZE,c64,hr,h0,h6,e1,n60,nl,hm1',hh2',hr3',e2,e3,e6,hw3,hbo2,hb3,e4,e5,e7,e8,hgrow,pE,e9,e10,e12,e13,hH4,Wx];refine hL _ _ fuel _ (.ptr p 0) (.slice b 0 ws.length c s) (.int 3 a) (.slice bo 0 m 0 2) (by omega) ?_ ?_ ?_ ?_ ?_ ?_ ?_ ?_ _ (λe' q0 q1 q6 q11 q12=>?_);.rfl
   .rfl
   .rfl
   .rfl
   .rfl
   .rfl
   .rfl
   .rfl
   .simp only[go_sem,q0,q12,hf6',hfit']
end
theorem yf:∀(l)(i),enc l>>>(8*i)=enc (l.drop i)|l,0=>by simp|[],i+1=>by simp[enc]|x::l,i+1=>by have hx:=x.toNat_lt;rw[List.drop_succ_cons,<-yf l i,show 8*(i+1)=8+8*i by omega,YP3];congr 1;simp only[enc];omega
theorem TT(l)(n)(h:n<=l.length):enc l%256^n=enc (l.take n):=by have h1:=jh (l.take n) (l.drop n);have h2:=jj (l.take n);rw[List.take_append_drop,Yv,Ws h]at h1;rw[Yv,Ws h]at h2;rw[h1,Ww,Nat.add_mul_mod_self_left,WH h2]
theorem kN{all a rest:List UInt8}{pos}(h:all.drop pos=a++rest):all.drop (pos+a.length)=rest:=by rw[<-List.drop_drop,h,YN2]
section
variable{cp:RC->au}{t:Nat->Option du}{fuel:Nat}{H:Heap}
theorem PX(T:aB t){d r b pos}{k}{all x rest}(hw:H.wf)(hr:H.get r=bR b all pos)(hrn:r<H.n)(hb:H.get b=.bytes all.length (enc all))(hbr:b≠r)(hlen:all.length<1000000)(hd:all.drop pos=bJ x.length++(x++rest))(hfu:8<fuel):aj (aS cp t fuel (d+3)) (.func 248 []) [.ptr r 0] H k=k (tv x) (H.put r (bR b all (pos+(bJ x.length++x).length))):=by
 have hx:=congrArg Wl hd;simp only[WJ,YB]at hx;have hd2:=kN hd;have hp1:1<=(bJ x.length).length:=by simp[bJ]
 have hpos:pos+(bJ x.length).length+x.length<=all.length:=by omega
 have h1:∀{k},aj (aS cp t fuel (d+2)) (.func 184 []) [.ptr r 0] H k=k (.int 7 x.length) (H.put r (bR b all (pos+(bJ x.length).length))):=λ{k}=>lC T hw hr hrn hb hbr hlen (by omega) hd hfu;have h2:∀{k},aj (aS cp t fuel (d+2)) (.func 258 []) [.ptr r 0,.int 7 x.length] (H.put r (bR b all (pos+(bJ x.length).length))) k=k (.slice b (pos+(bJ x.length).length) x.length (x.length+1) 0) (H.put r (bR b all (pos+(bJ x.length++x).length))):=λ{k}=>by rw[uX T (by rw[Heap.bu];omega) (by rw[Heap.aC hw hrn,if_pos rfl]) (by rw[Heap.aR];omega) hlen (by omega),Heap.jz,YB,Nat.add_assoc]
 have hb2:(H.put r (bR b all (pos+(bJ x.length++x).length))).get b=.bytes all.length (enc all):=by rw[Heap.aC hw hrn,if_neg hbr];omega
 have h3:enc all>>>(8*(pos+(bJ x.length).length))%256^x.length=enc x:=by rw[yf,hd2,TT _ _ (by simp),List.take_left]
 generalize H.put r (bR b all (pos+(bJ x.length++x).length))=G at h2 hb2⊢;rw[show tv x=.str x.length (enc x)from rfl,ax T.afw rfl rfl];simp only[go_sem,aer,h1,h2,hb2,hpos,h3]
theorem TU(T:aB t){d r b}{k}{all}(hr:H.get r=bR b all all.length):aj (aS cp t fuel (d+2)) (.func 250 []) [.ptr r 0] H k=k (.bool true) H:=by
 have h1:∀{k},aj (aS cp t fuel (d+1)) (.func 286 []) [.ptr r 0] H k=k (.bool true) H:=λ{k}=>MA T hr;have e1:=by omega
 unfold bR at hr;rw[ax T.afx rfl rfl];simp only[go_sem,ZE,aes,h1,hr,Nat.sub_self]
set_option maxRecDepth 4000in theorem Dp(T:aB t){b r n:Nat}{text:List UInt8}{all:List Wr}(hfu:8<fuel)(hlen:text.length<1000000)(hn:n=all.length)(hnb:n<10000)(hb0:H.get b=.bytes text.length (enc text))(hbn:b<H.n)(hall:∀w∈all,w.1<=1024/\w.2.1<=1000/\tM w.2):∀(ws pre:List Wr)(G:Heap)(vo:V)(pos:Nat),all=pre++ws->ah H G->AW H G vo pre->text.drop pos=pt ws->pos<=text.length->G.get r=bR b text pos->H.n<=r->r<G.n->(∀bo l c s z,vo=.slice bo l c s z->r≠bo)->∃G' vo',ah H G'/\AW H G' vo' all/\G'.get r=bR b text text.length/\r<G'.n/\∀(d:Nat)(kx:Nat->KE)(rr:Nat)(e:Env),ws.length<rr->af s004 e=.ptr r 0->af s006 e=vo->af s022 e=.int 7 n->af s023 e=.int 7 pre.length->∀x:R,(∀e',af s004 e'=.ptr r 0->af s006 e'=vo'->kx 1 e' G'=x)->kq Fl fuel (aS cp t fuel (d+3)) kx rr e G=x:=by
 intro ws;induction ws with|nil=>
  intro pre G vo pos hal f hg hd hpl hr hr1 hr2 hbo;have hal':all=pre:=by rw[hal,YX]
  rw[<-hal']at hg;have hpe:pos=text.length:=by have:=congrArg Wl hd;simp only[pt,QL,WJ,YS]at this;omega
  rw[hpe]at hr;refine⟨G,vo,f,hg,hr,hr2,λd kx rr e hrr h4 h6 h22 h23 x hT=>?_⟩;obtain⟨rr,rfl⟩:∃q,rr=q+1:=⟨rr-1,by simp only[YS]at hrr;omega⟩;have hi:pre.length=n:=by rw[hn,hal']
  have e1:(ej (.lt 0 18446744073709551616) n n=true)=False:=by rw[BS (by omega) (by omega)];exact propext ⟨λh=>by omega,False.elim⟩
  rw[ak];rw[hi]at h23;simp only[go_sem,Fl,h22,h23,e1];exact hT _ h4 h6|cons w ws ih=>
  intro pre G vo pos hal f hg hd hpl hr hr1 hr2 hbo;have hw:=f.wf;obtain⟨hw1,hw2,hw3⟩:=hall w (by rw[hal];simp);have hlt:pre.length<n:=by rw[hn,hal];simp only[YB,YH];omega
  have e1:(ej (.lt 0 18446744073709551616) pre.length n=true)=True:=by rw[BS (by omega) (by omega)];exact eq_true hlt
  have e2:(ej (.gt 0 18446744073709551616) w.1 1024=true)=False:=by rw[oO (by omega) (by omega)];exact propext ⟨λh=>by omega,False.elim⟩
  have e3:=m_ w.1;have e9:=m_ (pre.length+1);have hbr:b≠r:=by omega
  have hbG:=(f.same b hbn).trans hb0;have hd1:text.drop pos=bJ w.1++(bJ (IQ w).length++(IQ w++pt ws)):=by rw[hd,lM];simp only[pt,Wa,AL,WA]
  have h1:∀{d}{k},aj (aS cp t fuel (d+2)) (.func 184 []) [.ptr r 0] G k=k (.int 7 w.1) (G.put r (bR b text (pos+(bJ w.1).length))):=λ{d k}=>lC T hw hr hr2 hbG hbr hlen (by omega) hd1 hfu;have hd2:=kN hd1;generalize hp2:pos+(bJ w.1).length=pos2 at h1 hd2;have hd3:=by rw[<-WA]at hd2;exact kN hd2
  have h2:∀{d}{k},aj (aS cp t fuel (d+3)) (.func 248 []) [.ptr r 0] (G.put r (bR b text pos2)) k=k (.str w.2.1 w.2.2) (G.put r (bR b text (pos2+(bJ (IQ w).length++IQ w).length))):=λ{d k}=>by rw[<-VL hw3,PX T (by rw[Heap.bu];exact hw) (by rw[Heap.aC hw hr2,if_pos rfl]) (by rw[Heap.aR];exact hr2) (by rw[Heap.aC hw hr2,if_neg hbr];exact hbG) hbr hlen hd2 hfu,Heap.jz]
  have hpl3:pos2+(bJ (IQ w).length++IQ w).length<=text.length:=by
   have:=congrArg Wl hd2;simp only[WJ,YB]at this⊢;have hp1:1<=(bJ (IQ w).length).length:=by simp[bJ]
   omega
  generalize pos2+(bJ (IQ w).length++IQ w).length=pos3 at h2 hd3 hpl3;have fG3:ah H (G.put r (bR b text pos3)):=ah.put f hr1 hr2;have g3w:=fG3.wf;have g3n:(G.put r (bR b text pos3)).n=G.n:=Heap.aR;have g3r:(G.put r (bR b text pos3)).get r=bR b text pos3:=by rw[Heap.aC hw hr2,if_pos rfl]
  have e20:2<=2:=YC _;have e21:=by omega
  rcases hg with⟨rfl,ho⟩|⟨bo,rfl,ho,hbo2,hbo3,hbo4⟩
  .subst ho;generalize hG3:G.put r (bR b text pos3)=G3 at h2 fG3 g3w g3n g3r;have f2:ah H ((G3.new (.cells [.int 3 w.1,.str w.2.1 w.2.2])).new (.cells [.int 3 w.1,.str w.2.1 w.2.2])):=(fG3.trans (ah.new g3w)).trans (ah.new (by rw[Heap.aY];exact g3w));have gn:((G3.new (.cells [.int 3 w.1,.str w.2.1 w.2.2])).new (.cells [.int 3 w.1,.str w.2.1 w.2.2])).n=G.n+1+1:=by simp only[Heap.aK,g3n]
   obtain⟨G',vo',f',hg',hr',hr2',hG'⟩:=ih [w] _ (.slice (G.n+1) 0 1 0 2) pos3 (by rw[hal];simp) f2 (by refine YD ⟨G.n+1,rfl,by simp,?_,by have:=f.n;omega,by rw[gn];omega⟩;rw[Heap.aD (by rw[Heap.aY];exact g3w),if_pos (by rw[Heap.aK,g3n])];rfl) hd3 hpl3 (by rw[Heap.aD (by rw[Heap.aY];exact g3w),if_neg (by rw[Heap.aK,g3n];omega),Heap.aD g3w,if_neg (by rw[g3n];omega)];exact g3r) hr1 (by rw[gn];omega) (λbo l c s z he=>by cases he;omega);refine⟨G',vo',f',hg',hr',hr2',λd kx rr e hrr h4 h6 h22 h23 x hT=>?_⟩;obtain⟨rr,rfl⟩:=s_ rr;have h1':=λ{k}=>h1 (d:=d+1) (k:=k);rw[ak];simp only[YS,WG]at h23 e1 e9;simp only[go_sem,↓dn,Fl,h4,h6,h22,h23,e1,e2,e3,h1',h2,g3w,g3n,e20];refine hG' d kx rr _ (by simp only[YH]at hrr;omega) ?_ ?_ ?_ ?_ x hT<;>simp only[go_sem,h4,h22]
  .have hrb:¬bo=r:=λh=>hbo bo _ _ _ _ rfl h.symm;have g3o:(G.put r (bR b text pos3)).get bo=.cells (bX pre):=by rw[Heap.aC hw hr2,if_neg hrb];exact hbo2
   generalize hG3:G.put r (bR b text pos3)=G3 at h2 fG3 g3w g3n g3r g3o;have e4:¬bo=G.n:=by omega
   have e5:bo<G.n+1:=by omega
   have e6:pre.length+1<=1073741824:=by omega
   have e7:=dB pre;have w1:((G3.new (.cells [.int 3 w.1,.str w.2.1 w.2.2])).put bo .dead).wf:=by simp only[Heap.bu,Heap.aY,g3w]
   have n1:((G3.new (.cells [.int 3 w.1,.str w.2.1 w.2.2])).put bo .dead).n=G.n+1:=by simp only[Heap.aK,Heap.aR,g3n]
   have f2:ah H (((G3.new (.cells [.int 3 w.1,.str w.2.1 w.2.2])).put bo .dead).new (.cells (bX pre++[.int 3 w.1,.str w.2.1 w.2.2]))):=(ah.put (fG3.trans (ah.new g3w)) hbo3 (by rw[Heap.aK,g3n];omega)).trans (ah.new w1);have gn:(((G3.new (.cells [.int 3 w.1,.str w.2.1 w.2.2])).put bo .dead).new (.cells (bX pre++[.int 3 w.1,.str w.2.1 w.2.2]))).n=G.n+1+1:=by rw[Heap.aK,n1]
   obtain⟨G',vo',f',hg',hr',hr2',hG'⟩:=ih (pre++[w]) _ (.slice (G.n+1) 0 (pre.length+1) 0 2) pos3 (by rw[hal];simp) f2 (by refine YD ⟨G.n+1,by simp,by simp,?_,by omega,by omega⟩;rw[Heap.aD w1,if_pos n1.symm,dY];rfl) hd3 hpl3 (by rw[Heap.aD w1,if_neg (by omega),Heap.aC (by rw[Heap.aY];exact g3w) (by rw[Heap.aK,g3n];omega),if_neg (λh=>hrb h.symm),Heap.aD g3w,if_neg (by omega)];exact g3r) hr1 (by omega) (λbo l c s z he=>by cases he;omega);refine⟨G',vo',f',hg',hr',hr2',λd kx rr e hrr h4 h6 h22 h23 x hT=>?_⟩;obtain⟨rr,rfl⟩:=s_ rr;have h1':=λ{k}=>h1 (d:=d+1) (k:=k);rw[ak];simp only[go_sem,↓dn,Fl,h4,h6,h22,h23,e1,e2,e3,e9,h1',h2,g3w,g3n,g3o,e20,e4,e5,e6,e7];refine hG' d kx rr _ (by simp only[YH]at hrr;omega) ?_ ?_ ?_ ?_ x hT<;>simp only[go_sem,h4,h22,YB]
theorem Dm(T:aB t){ws}(hw:H.wf)(hr:oI ws)(h0:ws≠[])(hat:∀w∈ws,w.1<=1024)(hfu:100<fuel):∃H' vo,(∀(d)(k),aj (aS cp t fuel (d+4)) (.func 172 []) [tv (bV ws)] H k=k (.cG [vo,.bool true]) H')/\ah H H'/\AW H H' vo ws:=by
 have htl:=hr.text;have hnum:=hr.num;have hn0:=List.length_pos_iff.2 h0;have hnr:∀{d}{k},aj (aS cp t fuel (d+1)) (.func 180 []) [tv (bV ws)] H k=k (.ptr (H.n+1) 0) ((H.new (.bytes (bV ws).length (enc (bV ws)))).new (bR H.n (bV ws) 0)):=λ{d k}=>lB T hw (by omega);have hd1:(bV ws).drop 0=bJ ws.length++pt ws:=rfl;have hd2:=kN hd1;have hpl:0+(bJ ws.length).length<=(bV ws).length:=by simp only[bV,YB];omega
 generalize bV ws=text at htl hnr hd1 hd2 hpl⊢;have hw1:(H.new (.bytes text.length (enc text))).wf:=by rw[Heap.aY];omega
 have fb:ah H (H.new (.bytes text.length (enc text))):=ah.new hw;have hbn:(H.new (.bytes text.length (enc text))).n=H.n+1:=Heap.aK;have hbb:(H.new (.bytes text.length (enc text))).get H.n=.bytes text.length (enc text):=by rw[Heap.aD hw,if_pos rfl]
 generalize H.new (.bytes text.length (enc text))=Hb at hnr hw1 fb hbn hbb;have fG:ah Hb (Hb.new (bR H.n text 0)):=ah.new hw1;have gr:(Hb.new (bR H.n text 0)).get (H.n+1)=bR H.n text 0:=by rw[Heap.aD hw1,if_pos hbn.symm]
 have gb:(Hb.new (bR H.n text 0)).get H.n=.bytes text.length (enc text):=by rw[Heap.aD hw1,if_neg (by omega)];omega
 have gn:(Hb.new (bR H.n text 0)).n=H.n+1+1:=by rw[Heap.aK,hbn]
 generalize Hb.new (bR H.n text 0)=G at hnr fG gr gb gn;have gw:=fG.wf;have hrn:H.n+1<G.n:=by omega
 have hne:H.n≠H.n+1:=by omega
 have hn1:∀{d}{k},aj (aS cp t fuel (d+2)) (.func 184 []) [.ptr (H.n+1) 0] G k=k (.int 7 ws.length) (G.put (H.n+1) (bR H.n text (0+(bJ ws.length).length))):=λ{d k}=>lC T gw gr hrn gb hne (by omega) (by omega) hd1 (by omega);generalize 0+(bJ ws.length).length=pos at hn1 hd2 hpl;have fG2:ah Hb (G.put (H.n+1) (bR H.n text pos)):=ah.put fG (by omega) hrn;obtain⟨G',vo',f',hg',hr',hr2',hL⟩:=Dp (fuel:=fuel) T (by omega) (by omega) rfl (by omega) hbb (by omega) (λw hw=>⟨hat w hw,by have:=hr.len w hw;omega,hr.ok w hw⟩) ws [] (G.put (H.n+1) (bR H.n text pos)) .aE pos rfl fG2 (YF ⟨rfl,rfl⟩) hd2 hpl (by rw[Heap.aC gw hrn,if_pos rfl]) (by omega) (by rw[Heap.aR];omega) (λbo l c s z he=>by cases he);have he:∀{d}{k},aj (aS cp t fuel (d+2)) (.func 250 []) [.ptr (H.n+1) 0] G' k=k (.bool true) G':=λ{d k}=>TU T hr';refine⟨G',vo',λd k=>?_,fb.trans f',?_⟩
 .have e1:(ej (.lt 0 18446744073709551616) ws.length 1=true)=False:=by rw[BS (by omega) (by omega)];exact propext ⟨λh=>by omega,False.elim⟩
  have e2:(ej (.gt 0 18446744073709551616) ws.length 60=true)=False:=by rw[oO (by omega) (by omega)];exact propext ⟨λh=>by omega,False.elim⟩
  rw[ax T.k86 rfl rfl];simp only[go_sem,c86,hnr,hn1,e1,e2];refine hL d _ fuel _ (by omega) ?_ ?_ ?_ ?_ _ (λe' g4 g6=>?_);.rfl
  .rfl
  .rfl
  .rfl
  .simp only[go_sem,g4,g6,he]
 .rcases hg' with h|⟨bo,q1,q2,q3,q4,q5⟩;.exact YF h
  .exact YD ⟨bo,q1,q2,q3,by omega,q5⟩
end
theorem adt{a b}(h:tv a=tv b):a=b:=by simp only[tv,V.str.injEq]at h;rw[<-fW a,<-fW b,h.1,h.2]
theorem yQ:∀{a b:List (List UInt8)},a.map tv=b.map tv->a=b|[],[],_=>rfl|[],_::_,h=>by cases h|_::_,[],h=>by cases h|x::a,y::b,h=>by simp only[YP,List.cons.injEq]at h;rw[adt h.1,yQ h.2]
def Q0:Option (List UInt8)->V|some t=>.cG [tv t,.int 3 0]|none=>.cG [.str 0 0,.int 3 4]
open Classical in noncomputable def eE(unpk:List (List UInt8)->Option (List UInt8))(args:List V)(H:Heap)(k:K):R:=match args with|[.slice b 0 n _ _]=>if h:∃ls:List (List UInt8),H.get b=.cells (ls.map tv)/\ls.length=n/\n<=1000/\(∀x∈ls,x.length<=1000)then k (Q0 (unpk h.choose)) H else no 0|_=>no 0
open Classical in theorem vX{unpk}{b n c s}{H}{k}{ls}(hb:H.get b=.cells (ls.map tv))(hn:ls.length=n)(h1:n<=1000)(h2:∀x∈ls,x.length<=1000):eE unpk [.slice b 0 n c s] H k=k (Q0 (unpk ls)) H:=by
 have hex:∃ls:List (List UInt8),H.get b=.cells (ls.map tv)/\ls.length=n/\n<=1000/\(∀x∈ls,x.length<=1000):=⟨ls,hb,hn,h1,h2⟩;have hs:=hex.choose_spec;have he:=by have:=hs.1.symm.trans hb;simp only[eN.cells.injEq]at this;exact yQ this
 show(if h:_ then _ else _)=_;rw[dif_pos hex,he]
theorem Kh{unpk}{b n c s}{H}{k}{ls}{t}(hb:H.get b=.cells (ls.map tv))(hn:ls.length=n)(h1:n<=1000)(h2:∀x∈ls,x.length<=1000)(hu:unpk ls=some t):eE unpk [.slice b 0 n c s] H k=k (.cG [tv t,.int 3 0]) H:=by rw[vX hb hn h1 h2,hu];rfl
def Rl(H G:Heap)(v:V)(ss:List Tx):Prop:=(v=.aE/\ss=[])\/∃b,v=.slice b 0 ss.length 0 1/\ss≠[]/\G.get b=.cells (ss.map sv)/\H.n<=b/\b<G.n
section
variable{cp:RC->au}{t:Nat->Option du}{fuel:Nat}{H:Heap}
theorem Gj(T:aB t)(hc:aM t){p:Nat}{A:AD}{O:Nat->Prop}(hD:cB H p A O)(ho:A.off=false)(hl:145<A.len)(hl2:A.len<=1024)(he:A.es.length<100000)(hu:A.us.length<50000)(hroom:(find A.es 0).isSome=true\/A.es.length<A.room)(hfu:10<fuel):∃H' O',(∀(d:Nat)(k:K),aj (aS cp t fuel (d+7)) (.func 124 []) [.ptr p 0] H k=k (.int 3 (A.runs [[(0,tx (fF 0 0))]]).2) H')/\Step H O H' O'/\cB H' p (A.runs [[(0,tx (fF 0 0))]]).1 O':=by
 have hw:=hD.wf;have hr:∀{d}{k},aj (aS cp t fuel (d+3)) (.func 162 []) [.ptr p 0] H k=k (.int 3 0) H:=λ{d k}=>by rw[om T hc hD,ho];rfl
 have hL:∀{d}{k},aj (aS cp t fuel (d+1)) (.func 88 []) [.ptr p 0] H k=k (.int 3 A.len) H:=λ{d k}=>tK (T.jJ hc) hD;obtain⟨H8,hh8,f8⟩:=pU (cp:=cp) (fuel:=fuel) T (a:=0) (n:=0) hw (by omega) (by omega) (by omega);have hw8:=f8.wf;have hhl:=nW 0 0;rw[show tv (fF 0 0)=.str 32 (enc (fF 0 0))by rfl]at hh8;have f89:ah H8 (H8.new (.cells [.int 3 0,.str 32 (enc (fF 0 0))])):=ah.new hw8;have h9b:(H8.new (.cells [.int 3 0,.str 32 (enc (fF 0 0))])).get H8.n=.cells [.int 3 0,.str 32 (enc (fF 0 0))]:=by rw[Heap.aD hw8,if_pos rfl]
 have h9n:(H8.new (.cells [.int 3 0,.str 32 (enc (fF 0 0))])).n=H8.n+1:=Heap.aK;generalize hH9:H8.new (.cells [.int 3 0,.str 32 (enc (fF 0 0))])=H9 at f89 h9b h9n;have f9:=f8.trans f89;have hhd:nN H9 (.slice H8.n 0 1 2 0) [(0,tx (fF 0 0))] O:=YD ⟨H8.n,2,0,rfl,by rw[h9b];rfl,by omega,λh=>by have:=hD.lt _ h;have:=f8.n;omega⟩;obtain⟨H10,F2,ha10,f910,hA2⟩:=pF (cp:=cp) (fuel:=fuel) T (p:=p) f9.wf (λx hx=>YE (hD.lt x hx) f9.n) hhd;have f10:=f9.trans f910;have hw10:=f10.wf;have f11:ah H10 (H10.new (.cells [F2])):=ah.new hw10;have hA2':=hA2.bU f11.step;have f12:=f10.trans f11;obtain⟨H',O',g1,g2,g3⟩:=zG (cp:=cp) (c:=2) (s:=0) (fs:=[(F2,[(0,tx (fF 0 0))])]) T hc (hD.fresh f12) (by
  refine⟨ho,λus hus=>?_,?_,λus hus w hw=>?_,?_⟩;.simp only[YP,YZ,YN,Wf,or_false]at hus;subst hus;simp only[YH,YS];omega
  .simp only[YP,YZ,WL,Qf,YB,YH,YS];omega
  .simp only[YP,YZ,YN,Wf,or_false]at hus;subst hus;rw[YK.1 hw];exact⟨by omega,hhl⟩
  .exact⟨hroom,trivial⟩) (λf hf=>by simp only[YN,Wf,or_false]at hf;subst hf;exact⟨hA2',by simp,by show 1<fuel;omega⟩) (by rw[Heap.aD hw10,if_pos rfl];rfl) (by rw[Heap.aK];omega) (λh=>by have:=hD.lt _ h;have:=f10.n;omega) (by simp) (by simp only[YH,YS];omega);obtain⟨B20,B21,B22,v2,rfl,_⟩:=hA2;have n145:=n_ 145;have nl:=n_ A.len;have e1:¬A.len<=145:=by omega
 refine⟨H',O',λd k=>?_,f12.step.trans g2,g3⟩;have hh8':=λ{d}{k}=>hh8 (d+3) k;have ha10':=λ{d}{k}=>ha10 (d+5) k;have g1':=λ{d}{k}=>g1 (d+1) k;simp only[YP,YZ,YH,YS]at g1';rw[ax T.k62 rfl rfl];simp only[go_sem,c62,hr,hL,n145,nl,e1,hh8',hw8,hH9,ha10',hw10,g1']
set_option maxRecDepth 4000in theorem DP(T:aB t)(hc:aM t){p a n:Nat}{A:AD}{O:Nat->Prop}(hD:cB H p A O)(ho:A.off=false)(hl:145<=A.len)(ha:a<2)(hn:n<=72):∀(m i:Nat)(G:Heap)(vo:V),i+m=n->ah H G->Rl H G vo ((WY i).map λj=>A.read (1+a*72+j))->∃G' vo',ah H G'/\Rl H G' vo' ((WY n).map λj=>A.read (1+a*72+j))/\∀(d:Nat)(kx:Nat->KE)(rr:Nat)(e:Env),m<rr->af s000 e=.ptr p 0->af s004 e=.int 3 a->af s007 e=vo->af s040 e=.int 3 n->af s041 e=.int 3 i->∀x:R,(∀e',af s000 e'=.ptr p 0->af s007 e'=vo'->kx 1 e' G'=x)->
  kq EY fuel (aS cp t fuel (d+3)) kx rr e G=x:=by intro m;induction m with|zero=>
  intro i G vo hi f hg;have hi':i=n:=by omega
  subst hi';refine⟨G,vo,f,hg,λd kx rr e hrr h0 h4 h7 h40 h41 x hT=>?_⟩;obtain⟨rr,rfl⟩:=s_ rr;have e1:¬i<i:=by omega
  have e2:=n_ i;rw[ak];simp only[go_sem,EY,h40,h41,e1,e2];exact hT _ h0 h7|succ m ih=>
  intro i G vo hi f hg;have hlt:i<n:=by omega
  have e1:=n_ i;have e2:=n_ n;have e9:=m_ (i+1);have hat:∀{d}{k}{G},aj (aS cp t fuel (d+1)) (.func 168 []) [.int 3 a,.int 3 i] G k=k (.int 3 (1+a*72+i)) G:=λ{d k G}=>EL T ha (by omega);obtain⟨G2,hr2,f2⟩:=qm (cp:=cp) (fuel:=fuel) (T.jJ hc) (hD.fresh f) ho (a:=1+a*72+i) (by omega);have fG2:=f.trans f2;have gw:=fG2.wf;have hrs:(WY (i+1)).map (λj=>A.read (1+a*72+j))=(WY i).map (λj=>A.read (1+a*72+j))++[A.read (1+a*72+i)]:=by rw[List.range_succ,Yz];rfl
  have hrl:((WY i).map λj=>A.read (1+a*72+j)).length=i:=by simp
  have e21:=by omega
  generalize hgn:(WY i).map (λj=>A.read (1+a*72+j))=ss at hg hrs hrl;generalize A.read (1+a*72+i)=q at hr2 hrs;obtain⟨ql,qn⟩:=q;simp only[sv]at hr2;rcases hg with⟨rfl,hs0⟩|⟨bo,rfl,hs0,hbo2,hbo3,hbo4⟩
  .subst hs0;have hi0:i=0:=by rw[<-hrl];rfl
   have f3:ah H ((G2.new (.cells [.str ql qn])).new (.cells [.str ql qn])):=(fG2.trans (ah.new gw)).trans (ah.new (by rw[Heap.aY];exact gw));have gn:((G2.new (.cells [.str ql qn])).new (.cells [.str ql qn])).n=G2.n+1+1:=by simp only[Heap.aK]
   obtain⟨G',vo',f',hg',hG'⟩:=ih (i+1) _ (.slice (G2.n+1) 0 1 0 1) (by omega) f3 (by rw[hrs];refine YD ⟨G2.n+1,rfl,by simp,?_,by have:=fG2.n;omega,by rw[gn];omega⟩;rw[Heap.aD (by rw[Heap.aY];exact gw),if_pos (by rw[Heap.aK])];rfl);refine⟨G',vo',f',hg',λd kx rr e hrr h0 h4 h7 h40 h41 x hT=>?_⟩;obtain⟨rr,rfl⟩:=s_ rr;rw[ak];simp only[go_sem,↓dn,EY,h0,h4,h7,h40,h41,hlt,e1,e2,e9,hat,hr2,gw];refine hG' d kx rr _ (by omega) ?_ ?_ ?_ ?_ ?_ x hT<;>simp only[go_sem,h0,h4,h40]
  .have hboG:=YE hbo4 f2.n;have hbo2':=(f2.same bo hbo4).trans hbo2;have e4:¬bo=G2.n:=by omega
   have e5:bo<G2.n+1:=by omega
   have e6:i+1<=1073741824:=by omega
   have w1:((G2.new (.cells [.str ql qn])).put bo .dead).wf:=by simp only[Heap.bu,Heap.aY,gw]
   have n1:((G2.new (.cells [.str ql qn])).put bo .dead).n=G2.n+1:=by simp only[Heap.aK,Heap.aR]
   have f3:ah H (((G2.new (.cells [.str ql qn])).put bo .dead).new (.cells (ss.map sv++[.str ql qn]))):=(ah.put (fG2.trans (ah.new gw)) hbo3 (by rw[Heap.aK];omega)).trans (ah.new w1);have gn:(((G2.new (.cells [.str ql qn])).put bo .dead).new (.cells (ss.map sv++[.str ql qn]))).n=G2.n+1+1:=by rw[Heap.aK,n1]
   obtain⟨G',vo',f',hg',hG'⟩:=ih (i+1) _ (.slice (G2.n+1) 0 (i+1) 0 1) (by omega) f3 (by rw[hrs];refine YD ⟨G2.n+1,by simp[hrl],by simp,?_,by omega,by omega⟩;rw[Heap.aD w1,if_pos n1.symm,Yz];rfl);refine⟨G',vo',f',hg',λd kx rr e hrr h0 h4 h7 h40 h41 x hT=>?_⟩;obtain⟨rr,rfl⟩:=s_ rr;rw[ak];simp only[go_sem,↓dn,EY,h0,h4,h7,h40,h41,hlt,e1,e2,e9,hat,hr2,gw,e4,e5,e6,hrl,hbo2'];refine hG' d kx rr _ (by omega) ?_ ?_ ?_ ?_ ?_ x hT<;>simp only[go_sem,h0,h4,h40]
end
def AD.recover(A:AD)(n:Nat)(ws:List Wr):AD×Nat:=if A.off=true then(A,6)else if n=0then(A,0)else A.runs [ws]
structure iW(A:AD)(pk:List UInt8->List (List UInt8))(a n:Nat)(ws:List Wr):Prop where
 can:mK A a n
 record:n≠0->n=(pk (bV ws)).length/\(∀i(h:i<(pk (bV ws)).length),A.read (1+a*72+i)=tx (pk (bV ws))[i])/\oI ws/\ws≠[]/\gm A.len [] ws=true/\roomy A.room A.es ws
section
variable{cp:RC->au}{t:Nat->Option du}{fuel:Nat}{H:Heap}
theorem DO(T:aB t)(hc:aM t){pk:List UInt8->List (List UInt8)}{unpk:List (List UInt8)->Option (List UInt8)}(F:bH pk unpk)(hu:t 85=some (.nat (eE unpk))){p a n:Nat}{A:AD}{O:Nat->Prop}{ws:List Wr}(hD:cB H p A O)(C:iW A pk a n ws)(hfu:10000<fuel):∃H' O',(∀(d:Nat)(k:K),aj (aS cp t fuel (d+7)) (.func 80 []) [.ptr p 0] H k=k (.int 3 (A.recover n ws).2) H')/\Step H O H' O'/\cB H' p (A.recover n ws).1 O':=by
 have hw:=hD.wf;have hr:∀{d}{k},aj (aS cp t fuel (d+3)) (.func 162 []) [.ptr p 0] H k=k (.int 3 (if A.off=true then 6 else 0)) H:=λ{d k}=>om T hc hD;by_cases ho:A.off=true
 .refine⟨H,O,λd k=>?_,Step.refl hw,?_⟩;.rw[if_pos ho]at hr;rw[ax T.k40 rfl rfl];simp only[go_sem,c40,hr,AD.recover,ho]
  .simp only[AD.recover,if_pos ho];exact hD
 rw[if_neg ho]at hr;have ho':A.off=false:=by cases h:A.off with|true=>exact absurd h ho|false=>rfl
 obtain⟨⟨k1,k2,k3,k4,k5,k6,k7⟩,k8⟩:=C;obtain⟨H2,hh2,f2⟩:=BH (cp:=cp) (fuel:=fuel) T hc hD ho' (by omega) k5 k6 k7 (by omega);have hh2':=λ{d}{k}=>hh2 (d+1) k;by_cases h0:n=0
 .refine⟨H2,O,λd k=>?_,f2.step,?_⟩;.have n0:=n_ n;rw[ax T.k40 rfl rfl];simp only[go_sem,c40,hr,hh2',AD.recover,ho,h0]
  .simp only[AD.recover,if_neg ho,if_pos h0];exact hD.fresh f2
 obtain⟨j1,j2,j3,j4,j5,j6⟩:=k8 h0;have hrc:A.recover n ws=A.runs [ws]:=by simp only[AD.recover,if_neg ho,if_neg h0]
 rw[hrc];have htl:=j3.text;have hnum:=j3.num;obtain⟨hgood,_⟩:=eV j5;have hback:=F.back (bV ws) (by omega);have hpkl:=F.len (bV ws) (by omega);obtain⟨H3,vo,f3,g3,hL⟩:=DP T hc (hD.fresh f2) ho' k1 k6 k7 n 0 H2 .aE (by omega) (ah.refl f2.wf) (YF ⟨rfl,rfl⟩);have f23:=f2.trans f3;have hread:(WY n).map (λj=>A.read (1+a*72+j))=(pk (bV ws)).map tx:=by refine List.ext_getElem (by simp[j1]) λi h1 h2=>?_;simp only[List.getElem_map,List.getElem_range];exact j2 i (by simpa using h2)
 rw[hread]at g3;obtain⟨b,rfl,hb2,hb3,hb4⟩:∃b,vo=.slice b 0 n 0 1/\H3.get b=.cells ((pk (bV ws)).map tv)/\H2.n<=b/\b<H3.n:=by
  rcases g3 with⟨_,h⟩|⟨b,q1,q2,q3,q4,q5⟩;.have:=congrArg Wl h;simp only[Yg,YS]at this;omega
  .refine⟨b,by rw[q1,Yg,<-j1],?_,q4,q5⟩;rw[q3,List.map_map];rfl
 have hun:∀{d}{k},aj (aS cp t fuel (d+1)) (.func 170 []) [.slice b 0 n 0 1] H3 k=k (.cG [tv (bV ws),.int 3 0]) H3:=λ{d k}=>by rw[mS hu rfl rfl];exact Kh hb2 j1.symm (by omega) (λx hx=>by have:=hpkl x hx;omega) hback
 obtain⟨H4,vw,hjw,f4,g4⟩:=Dm (cp:=cp) (fuel:=fuel) T f3.wf j3 j4 (λw hw=>by have:=(hgood w hw).1.2.1;omega) (by omega);have f24:=f23.trans f4;have hWs:nN H4 vw ws O:=by
  rcases g4 with⟨_,h⟩|⟨bo,q1,q2,q3,q4,q5⟩;.exact absurd h j4
  .exact YD ⟨bo,_,_,q1,q3,q5,λh=>by have:=hD.lt _ h;have:=f23.n;omega⟩
 obtain⟨H5,hm5,f5⟩:=yR (cp:=cp) (fuel:=fuel) T hc (hD.fresh f24) (by unfold nn;omega) hWs (λw hw=>by have:=(hgood w hw).1.2;omega) (by omega) (by omega);rw[j5]at hm5;have f25:=f24.trans f5;obtain⟨H6,F1,ha6,f6,hA⟩:=pF (cp:=cp) (fuel:=fuel) T (p:=p) f5.wf (λx hx=>YE (hD.lt x hx) f25.n) (hWs.fresh f5);have f26:=f25.trans f6;have hw6:=f6.wf;have f67:ah H6 (H6.new (.cells [F1])):=ah.new hw6;have hA':=hA.bU f67.step;have f27:=f26.trans f67;obtain⟨H',O',g1,g2,g3⟩:=zG (cp:=cp) (c:=2) (s:=0) (fs:=[(F1,ws)]) T hc (hD.fresh f27) (by
  refine⟨ho',λus hus=>?_,?_,λus hus w hw=>?_,?_⟩;.simp only[YP,YZ,YN,Wf,or_false]at hus;subst hus;omega
  .simp only[YP,YZ,WL,Qf,YB,YS];omega
  .simp only[YP,YZ,YN,Wf,or_false]at hus;subst hus;exact⟨(hgood w hw).1.2.1,(hgood w hw).1.2.2⟩
  .simp only[YP,YZ,WL,Qf,YX];exact j6) (λf hf=>by simp only[YN,Wf,or_false]at hf;subst hf;exact⟨hA',by show ws.length<10000;omega,by show ws.length<fuel;omega⟩) (by rw[Heap.aD hw6,if_pos rfl];rfl) (by rw[Heap.aK];omega) (λh=>by have:=hD.lt _ h;have:=f26.n;omega) (by simp) (by simp only[YH,YS];omega);obtain⟨B20,B21,B22,v2,rfl,_⟩:=hA;clear hA';have n0:=n_ n;refine⟨H',O',λd k=>?_,f27.step.trans g2,g3⟩;have g1':=λ{d}{k}=>g1 (d+1) k;have hjw':=λ{d}{k}=>hjw (d+2) k;have hm5':=λ{d}{k}=>hm5 (d+4) k;have ha6':=λ{d}{k}=>ha6 (d+5) k;have hun':=λ{d}{k}=>hun (d:=d+5) (k:=k);simp only[YP,YZ,YH,YS]at g1';rw[ax T.k40 rfl rfl];simp only[go_sem,c40,hr,hh2',h0];refine hL _ _ fuel _ (by omega) ?_ ?_ ?_ ?_ ?_ _ (λe' q0 q7=>?_);.rfl
 .rfl
 .rfl
 .rfl
 .rfl
 .simp only[go_sem,q0,q7,hun',hjw',hm5',ha6',hw6,g1']
end
end Go.Ev
end
