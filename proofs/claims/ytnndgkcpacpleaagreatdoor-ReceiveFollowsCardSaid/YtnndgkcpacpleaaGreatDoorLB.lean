/- LB: a part of the evaluator,of its logic,or of the laws' walk in it. -/
import Derived.Test.YtnndgkcpacpleaaGreatDoorLA
open List renaming getElem?_eq_getElem → YA,length_append → YC,length_cons → YH,mem_cons_of_mem → YI,mem_cons_self → YJ,nil_append → YK,cons_append → YL,length_nil → YO,map_cons → YP,eq_nil_of_length_eq_zero → YQ,append_nil → YR,mem_singleton → YU,take_of_length_le → YV,replicate → YZ,mem_cons → Yb,map_nil → Yc,length_map → Ys,getElem?_drop → Yy,append_assoc → WA,map_append → WB,length_take → WI,length_drop → WM,flatten_cons → WU,range → WX,not_mem_nil → Wa,flatMap_cons → Wb,length → Wv,length_replicate → Wz,flatMap_nil → QD,foldl_cons → Qa,find?_cons → Qz,flatten_nil → YC2,countP_mono_left → YJ2,drop_left → YJ4
open Nat renaming le_refl → YB,lt_of_lt_of_le → YD,mod_eq_of_lt → WE,zero_add → WJ,add_zero → WL,mul_comm → Wo,sub_zero → QQ,min_eq_left → QZ,shiftRight_add → YM2
open Or renaming inr → YE,inl → YG
set_option linter.unusedVariables false
set_option linter.unusedSimpArgs false
set_option linter.unusedSectionVars false
set_option maxHeartbeats 8000000
open Nat renaming reduceAdd→ZA,reduceSub→ZB,reduceMul→ZC,reduceEqDiff→ZD,reduceLT→ZE,reduceDiv→ZF,reduceMod→ZG,reduceLeDiff→ZH
section
namespace Go.Ev
def bN (b:Nat) (all:List UInt8) (pos:Nat):eK:=.cells [.slice b pos (all.length-pos) 0 1,.bool false]
def IL (l:List UInt8):Nat:=l.foldl (λa b=>a*256+b.toNat) 0
theorem FQ:∀ (m n) (s),n<256 ^ m->(be m n s).foldl (λa b=>a*256+b.toNat) 0=s.foldl (λa b=>a*256+b.toNat) n
 | 0,n,s,h=>by simp at h;subst h;rfl
 | m+1,n,s,h=>by
  simp only [be]
  split
  .simp_all
  .rw [FQ m (n/256) _ (by omega)]
   simp only [Qa,toNat_ofNat (show n%256<256 by omega)]
   congr 1
   omega
theorem aau {n} (h:n<18446744073709551616):IL (be 8 n [])=n:=by
 have h8:(256:Nat) ^ 8=18446744073709551616:=by rfl
 unfold IL
 rw [FQ 8 n [] (by omega)]
 rfl
theorem FJ (l) (b):IL (l ++ [b])=IL l*256+b.toNat:=by simp only [IL,List.foldl_append,Qa,List.foldl_nil]
theorem FP:∀ (l:List UInt8) (a),l.foldl (λa b=>a*256+b.toNat) a<(a+1)*256 ^ l.length
 | [],a=>by simp
 | b :: l,a=>by
  have h:=FP l (a*256+b.toNat)
  have hb:=b.toNat_lt
  simp only [Qa,YH,Nat.pow_succ]
  refine YD h ?_
  rw [Wo (256 ^ l.length),<- Nat.mul_assoc]
  exact Nat.mul_le_mul_right _ (by omega)
theorem aav (l):IL l<256 ^ l.length:=by
 have:=FP l 0
 simpa [IL] using this
theorem Ly:∀ (m n) (s r) (d),n≠0->n<256 ^ m->be m n s=d :: r->d≠0
 | 0,n,s,r,d,h,h1,_=>by omega
 | m+1,n,s,r,d,h,h1,h2=>by
  simp only [be,if_neg h]at h2
  by_cases h3:n/256=0
  .have h4:be m (n/256) (UInt8.ofNat (n%256):: s)=UInt8.ofNat (n%256):: s:=by
    cases m with
    | zero=>rfl
    | succ m=>simp only [be,if_pos h3]
   rw [h4]at h2
   simp only [List.cons.injEq]at h2
   rw [<- h2.1]
   intro h5
   have:=congrArg UInt8.toNat h5
   rw [toNat_ofNat (by omega)]at this
   have h6:(0:UInt8).toNat=0:=rfl
   omega
  .exact Ly m (n/256) _ r d h3 (by omega) h2
theorem B8:∀ (l) (i) (h),enc l >>> (8*i) &&& 255=l[i].toNat
 | x :: l,0,_=>by
  simp only [enc]
  have h:=Nat.and_two_pow_sub_one_eq_mod (x.toNat+256*enc l) 8
  simp_all
 | x :: l,i+1,h=>by
  have hx:=x.toNat_lt
  have h1:enc (x :: l) >>> (8*(i+1))=enc l >>> (8*i):=by
   rw [show 8*(i+1)=8+8*i by omega,YM2]
   congr 1
   simp only [enc]
   omega
  rw [h1,B8 l i (by simp_all)]
  simp
section
variable {cp:RC->ah} {t:Nat->Option cP} {fuel:Nat} {H:Heap}
set_option maxRecDepth 4000 in
theorem ui (T:aA t) {d r b pos n} {k} {all} (hw:H.wf) (hr:H.get r=bN b all pos) (hrn:r<H.n) (hlen:all.length<1000000) (hn:pos+n<=all.length):
 aj (aN cp t fuel (d+1)) (.func 378 []) [.ptr r 0,.int 7 n] H k=k (.slice b pos n (n+1) 0) (H.put r (bN b all (pos+n))):=by
 have e1:all.length-pos<9223372036854775808:=by omega
 have e2:(all.length-pos)%18446744073709551616=all.length-pos:=by omega
 have e3:(dA (.gt 0 18446744073709551616) n (all.length-pos)=true)=False:=by rw [nU (by omega) (by omega)];exact propext ⟨λh=>by omega,False.elim⟩
 have e4:n<9223372036854775808:=by omega
 have e5:n<=all.length-pos:=by omega
 have e6:all.length-pos-n=all.length-(pos+n):=by omega
 unfold bN at hr ⊢
 rw [ax T.ael rfl rfl]
 by_cases hz:n=0
 .subst hz
  simp only [go_sem,Z2,hr,hw,hrn,e1,e2,e3,e4,e5,e6,QQ]
 .simp only [go_sem,Z2,hr,hw,hrn,e1,e2,e3,e4,e5,e6,hz,QQ]
theorem SL (T:aA t) {b c z p} {all s} {G} (hb:G.get b = .bytes all.length (enc all)) (hs:∀ j (h),∃ h':p+j<all.length,all[p+j]=s[j]) (hq:s.length<=8):
 ∀ (m i),i+m=s.length->∀ (d) (kx) (r) (e) (v0 v3 v4:V),m<r->ae s000 e=v0->ae s006 e=v3->ae s005 e = .int 7 (IL (s.take i))->ae s035 e = .slice b p s.length c z->ae s036 e = .int 3 s.length->ae s037 e = .int 3 i->
  ∀ x:R,(∀ e',ae s000 e'=v0->ae s006 e'=v3->ae s005 e' = .int 7 (IL s)->kx 1 e' G=x)->
  jQ BC fuel (aN cp t fuel d) kx r e G=x:=by
 intro m
 induction m with
 | zero=>
  intro i hi d kx r e v0 v3 v4 hr h0 h6 h5 h35 h36 h37 x hT
  obtain ⟨r,rfl⟩:∃ q,r=q+1:=⟨r-1,by omega⟩
  have hi':i=s.length:=by omega
  subst hi'
  have e1:¬ s.length<s.length:=by omega
  have e2:nn s.length:=by unfold nn;omega
  rw [ak]
  simp only [go_sem,BC,h36,h37,e1,e2]
  rw [List.take_length]at h5
  exact hT _ h0 h6 h5
 | succ m ih=>
  intro i hi d kx r e v0 v3 v4 hr h0 h6 h5 h35 h36 h37 x hT
  obtain ⟨r,rfl⟩:∃ q,r=q+1:=⟨r-1,by omega⟩
  have hlt:i<s.length:=by omega
  obtain ⟨hp,hv⟩:=hs i hlt
  have e1:nn i:=by unfold nn;omega
  have e2:nn s.length:=by unfold nn;omega
  have e3:i<9223372036854775808:=by omega
  have e4:enc all >>> (8*(p+i)) &&& 255=s[i].toNat:=by rw [B8 all _ hp,hv]
  have hbt:=(s[i]).toNat_lt
  have e5:s[i].toNat%18446744073709551616=s[i].toNat:=by omega
  have e9:(i+1)%18446744073709551616=i+1:=by omega
  have htk:s.take (i+1)=s.take i ++ [s[i]]:=by rw [List.take_add_one,YA hlt];rfl
  have hlt2:IL (s.take (i+1))<18446744073709551616:=by
   have h1:=aav (s.take (i+1))
   have h2:(256:Nat) ^ (s.take (i+1)).length<=256 ^ 8:=Nat.pow_le_pow_right (by omega) (by rw [WI];omega)
   omega
  rw [htk,FJ]at hlt2
  have e6:(IL (s.take i) <<< 8)%18446744073709551616 ||| s[i].toNat=IL (s.take (i+1)):=by
   have q1:IL (s.take i) <<< 8=IL (s.take i)*256:=Nat.shiftLeft_eq _ _
   have q2:=WE (Nat.lt_of_le_of_lt (Nat.le_add_right _ _) hlt2)
   have q3:IL (s.take i) <<< 8+s[i].toNat=IL (s.take i) <<< 8 ||| s[i].toNat:=Nat.shiftLeft_add_eq_or_of_lt (show s[i].toNat<2 ^ 8 from hbt) _
   rw [q1,q2,htk,FJ,<- q1]
   omega
  rw [ak]
  simp only [go_sem,BC,h5,h35,h36,h37,hlt,e1,e2,e3,e4,e5,e6,e9,hb,hp]
  refine ih (i+1) (by omega) d kx r _ v0 v3 v4 (by omega) ?_ ?_ ?_ ?_ ?_ ?_ x hT<;>simp only [go_sem,h0,h6,h35,h36]
set_option maxRecDepth 4000 in
theorem kQ (T:aA t) {d r b pos n:Nat} {k:K} {all rest:List UInt8} (hw:H.wf) (hr:H.get r=bN b all pos) (hrn:r<H.n) (hb:H.get b = .bytes all.length (enc all)) (hbr:b≠r) (hlen:all.length<1000000) (hn:n<18446744073709551616) (hd:all.drop pos=bE n ++ rest) (hfu:8<fuel):
 aj (aN cp t fuel (d+2)) (.func 246 []) [.ptr r 0] H k=k (.int 7 n) (H.put r (bN b all (pos+(bE n).length))):=by
 have hle:=qc 8 n []
 simp only [YO,WL]at hle
 have hpn:bE n=UInt8.ofNat (be 8 n []).length :: be 8 n []:=rfl
 have hfb:=aau hn
 have h8:(256:Nat) ^ 8=18446744073709551616:=by decide
 have hhd:=λd r h=>Ly 8 n [] r d (λh0=>by rw [h0]at h;simp [be]at h) (by omega) h
 rw [hpn]at hd ⊢
 generalize be 8 n []=s at hle hfb hhd hd ⊢
 have hdl:=congrArg Wv hd
 simp only [WM,YC,YH]at hdl ⊢
 have hget:∀ j (h),∃ h':pos+1+j<all.length,all[pos+1+j]=s[j]:=λj h=>by
  refine ⟨by omega,?_⟩
  have h1:(all.drop pos)[1+j]? = (UInt8.ofNat s.length :: s ++ rest)[1+j]?:=by rw [hd]
  rw [Yy,Nat.add_comm 1 j,show pos+(j+1)=pos+1+j by omega,YA (by omega)]at h1
  simp only [YL,List.getElem?_cons_succ]at h1
  rw [List.getElem?_append_left h,YA h]at h1
  exact Option.some.inj h1
 have hp0:pos<all.length:=by omega
 have hg0:=by
  have h1:(all.drop pos)[0]? = (UInt8.ofNat s.length :: s ++ rest)[0]?:=by rw [hd]
  rw [Yy,WL,YA hp0]at h1
  exact Option.some.inj h1
 have e0:enc all >>> (8*pos) &&& 255=s.length:=by rw [B8 all _ hp0,hg0,toNat_ofNat (by omega)]
 have e1:(dA (.gt 0 256) s.length 8=true)=False:=by
  rw [Q3]
  exact propext ⟨λh=>by omega,False.elim⟩
 have e2:s.length%18446744073709551616=s.length:=by omega
 have e3:s.length<9223372036854775808:=by omega
 have e4:nn s.length:=by unfold nn;omega
 have n0:nn 0:=by unfold nn;omega
 have t1:∀ {k},aj (aN cp t fuel (d+1)) (.func 379 [.ptr r 0]) [.int 7 1] H k=k (.slice b pos 1 2 0) (H.put r (bN b all (pos+1))):=λ{k}=>by
  exact ui T hw hr hrn hlen (by omega)
 have hw1:(H.put r (bN b all (pos+1))).wf:=by rw [Heap.bF];exact hw
 have t2:∀ {k},aj (aN cp t fuel (d+1)) (.func 379 [.ptr r 0]) [.int 7 s.length] (H.put r (bN b all (pos+1))) k=k (.slice b (pos+1) s.length (s.length+1) 0) (H.put r (bN b all (pos+(s.length+1)))):=λ{k}=>by
  rw [Jm (f:=379) (g:=378) rfl rfl rfl]
  rw [YL,YK,ui T hw1 (by rw [Heap.aE hw hrn,if_pos rfl]) (by rw [Heap.aR];exact hrn) hlen (by omega),Heap.iU,show pos+1+s.length=pos+(s.length+1) by omega]
 have hL:=SL (cp:=cp) (fuel:=fuel) (c:=s.length+1) (z:=0) (G:=H.put r (bN b all (pos+(s.length+1)))) T (by rw [Heap.aE hw hrn,if_neg hbr];exact hb) hget hle s.length 0 (by omega) (d+1)
 rw [ax T.adM rfl rfl]
 simp only [go_sem,ZE,aci,t1,t2,hw,hrn,hb,hbr,e0,e1,e2,e3,hp0]
 refine hL _ fuel _ (.ptr r 0) (.slice b (pos+1) s.length (s.length+1) 0) .az (by omega) ?_ ?_ ?_ ?_ ?_ ?_ _ (λe' g0 g6 g5=>?_)
 .rfl
 .rfl
 .rfl
 .rfl
 .rfl
 .rfl
 .cases hs:s with
  | nil=>
   have e5:=by omega
   rw [hs]at g5 g6 hfb
   simp only [go_sem,ZE,g5,g6,n0,hfb]
  | cons x s'=>
   have hx:=hhd x s' hs
   have hxt:¬ x.toNat=0:=λh=>hx (UInt8.toNat_inj.1 h)
   obtain ⟨h1,h2⟩:=hget 0 (by rw [hs];simp)
   have e6:enc all >>> (8*(pos+1)) &&& 255=x.toNat:=by
    have:=B8 all (pos+1) (by omega)
    rw [this]
    rw [h2]
    simp [hs]
   have e7:0<s'.length+1:=by omega
   have e8:=by exact e4
   have e9:s'.length+1<9223372036854775808:=by rw [hs]at e3;exact e3
   have e10:pos+1<all.length:=by omega
   rw [hs]at g5 g6 hfb
   simp only [go_sem,g5,g6,n0,hfb,e6,e7,e9,e10,hb,hbr,hw,hrn,hxt]
end
end Go.Ev
end
section
namespace Go.Ev
def tx (l:List UInt8):Tx:=(l.length,enc l)
theorem Zk (l):sv (tx l)=tv l:=rfl
theorem Ap:∀ n:Nat,enc (YZ n 0)=0
 | 0=>rfl
 | n+1=>by rw [List.replicate_succ];simp only [enc,Ap n];rfl
def fX (a n:Nat):List UInt8:=bE (a+1) ++ (bE n ++ YZ (32-(bE (a+1) ++ bE n).length) 0)
theorem nA (a n):(fX a n).length=32:=by
 have h1:=bI (a+1)
 have h2:=bI n
 simp only [fX,YC,Wz]
 omega
section
variable {cp:RC->ah} {t:Nat->Option cP} {fuel:Nat} {H:Heap}
theorem CL (T:aA t) {a b} (hw:H.wf) (ha:a.length+b.length<4000000000000000000) (hfu:8<fuel):
 ∃ H',(∀ (d) (k),aj (aN cp t fuel (d+3)) (.func 350 []) [tv a,tv b] H k=k (tv (a ++ bE b.length ++ b)) H')/\af H H':=by
 obtain ⟨H',h1,f1⟩:=eT (cp:=cp) T (a:=a) (n:=b.length) hw (by omega) (by omega) hfu
 have hpl:=bI b.length
 have e1:b.length<9223372036854775808:=by omega
 have e2:b.length%18446744073709551616=b.length:=by omega
 have e3:(a ++ bE b.length).length+b.length<9223372036854775808:=by rw [YC];omega
 refine ⟨H',λd k=>?_,f1⟩
 rw [<- Bg]
 rw [show tv (a ++ bE b.length) = .str (a ++ bE b.length).length (enc (a ++ bE b.length)) from rfl]at h1
 rw [show tv b = .str b.length (enc b) from rfl]
 generalize a ++ bE b.length=s at h1 e3 ⊢
 rw [ax T.aef rfl rfl]
 simp only [go_sem,acE,h1,e1,e2,e3]
theorem UM (T:aA t) {a i d} {k} (ha:a<2) (hi:i<1000000):
 aj (aN cp t fuel (d+1)) (.func 236 []) [.int 3 a,.int 3 i] H k=k (.int 3 (1+a*72+i)) H:=by
 have e1:a*72%18446744073709551616=a*72:=by omega
 have e2:(1+a*72)%18446744073709551616=1+a*72:=by omega
 have e3:(1+a*72+i)%18446744073709551616=1+a*72+i:=by omega
 rw [ax T.adI rfl rfl]
 simp only [go_sem,ace,e1,e2,e3]
theorem py (T:aA t) {a n} (hw:H.wf) (ha:a<2) (hn:n<=72) (hfu:8<fuel):
 ∃ H',(∀ (d) (k),aj (aN cp t fuel (d+3)) (.func 200 []) [.int 3 a,.int 3 n] H k=k (tv (fX a n)) H')/\af H H':=by
 obtain ⟨H1,h1,f1⟩:=eT (cp:=cp) T (a:=[]) (n:=a+1) hw (by simp) (by omega) hfu
 obtain ⟨H2,h2,f2⟩:=eT (cp:=cp) T (a:=bE (a+1)) (n:=n) f1.wf (by have:=bI (a+1);omega) (by omega) hfu
 have l1:=bI (a+1)
 have l2:=bI n
 refine ⟨H2.new (.bytes (32-(bE (a+1) ++ bE n).length) 0),λd k=>?_,(f1.trans f2).trans (af.new f2.wf)⟩
 have hh:fX a n=(bE (a+1) ++ bE n) ++ YZ (32-(bE (a+1) ++ bE n).length) 0:=by simp [fX]
 rw [hh,<- Bg,Ap,Nat.zero_mul,WL,Wz]
 rw [show tv ([]:List UInt8) = .str 0 0 from rfl]at h1
 have hs:(bE (a+1) ++ bE n).length<=18:=by rw [YC];omega
 rw [show tv (bE (a+1) ++ bE n) = .str (bE (a+1) ++ bE n).length (enc (bE (a+1) ++ bE n)) from rfl]at h2
 generalize bE (a+1) ++ bE n=s at h2 hs ⊢
 have e1:a%18446744073709551616=a:=by omega
 have e2:(a+1)%18446744073709551616=a+1:=by omega
 have e3:n%18446744073709551616=n:=by omega
 have e4:s.length<9223372036854775808:=by omega
 have e5:(32+(18446744073709551616-s.length))%18446744073709551616=32-s.length:=by omega
 have e6:32-s.length<=16777216:=by omega
 have e7:s.length+(32-s.length)<9223372036854775808:=by omega
 have hw2:=f2.wf
 rw [ax T.adD rfl rfl]
 simp only [go_sem,aca,h1,h2,e1,e2,e3,e4,e5,e6,e7,hw2]
theorem kP (T:aA t) {l} {d} {k} (hw:H.wf) (hl:l.length<1000000):
 aj (aN cp t fuel (d+1)) (.func 242 []) [tv l] H k=k (.ptr (H.n+1) 0) ((H.new (.bytes l.length (enc l))).new (bN H.n l 0)):=by
 have e1:l.length<=16777216:=by omega
 rw [show tv l = .str l.length (enc l) from rfl,ax T.adK rfl rfl]
 simp only [go_sem,acg,hw,e1,bN,QQ]
theorem Mr (T:aA t) {r b pos d} {all} {k} (hr:H.get r=bN b all pos):
 aj (aN cp t fuel (d+1)) (.func 428 []) [.ptr r 0] H k=k (.bool true) H:=by
 unfold bN at hr
 rw [ax T.aez rfl rfl]
 simp only [go_sem,acN,hr]
set_option maxRecDepth 4000 in
theorem Kx (T:aA t) {a n} (hw:H.wf) (ha:a<2) (hn:n<=72) (hfu:8<fuel):
 ∃ H',(∀ (d) (k),aj (aN cp t fuel (d+4)) (.func 348 []) [tv (fX a n)] H k=k (.cH [.int 3 a,.int 3 n,.bool true]) H')/\af H H':=by
 have hlen:=nA a n
 have hd1:(fX a n).drop 0=bE (a+1) ++ (bE n ++ YZ (32-(bE (a+1) ++ bE n).length) 0):=rfl
 have hd2:(fX a n).drop (0+(bE (a+1)).length)=bE n ++ YZ (32-(bE (a+1) ++ bE n).length) 0:=by rw [WJ,fX,YJ4]
 have hnr:∀ {d} {k},aj (aN cp t fuel (d+1)) (.func 242 []) [tv (fX a n)] H k=k (.ptr (H.n+1) 0) ((H.new (.bytes 32 (enc (fX a n)))).new (bN H.n (fX a n) 0)):=λ{d k}=>by
  rw [kP T hw (by omega),hlen]
 have fG:af H ((H.new (.bytes 32 (enc (fX a n)))).new (bN H.n (fX a n) 0)):=(af.new hw).trans (af.new (by rw [Heap.aX];omega))
 generalize hG:(H.new (.bytes 32 (enc (fX a n)))).new (bN H.n (fX a n) 0)=G at hnr fG
 have gw:=fG.wf
 have gn:G.n=H.n+1+1:=by rw [<- hG];simp only [Heap.aM]
 have gr:G.get (H.n+1)=bN H.n (fX a n) 0:=by rw [<- hG,Heap.aD (by rw [Heap.aX];omega),if_pos (by rw [Heap.aM])]
 have gb:G.get H.n = .bytes (fX a n).length (enc (fX a n)):=by rw [<- hG,Heap.aD (by rw [Heap.aX];omega),if_neg (by rw [Heap.aM];omega),Heap.aD hw,if_pos rfl,hlen]
 have hrn:H.n+1<G.n:=by omega
 have hne:H.n≠H.n+1:=by omega
 have hn1:∀ {d} {k},aj (aN cp t fuel (d+2)) (.func 246 []) [.ptr (H.n+1) 0] G k=k (.int 7 (a+1)) (G.put (H.n+1) (bN H.n (fX a n) (0+(bE (a+1)).length))):=λ{d k}=>kQ T gw gr hrn gb hne (by omega) (by omega) hd1 hfu
 generalize hpos:0+(bE (a+1)).length=pos at hn1 hd2
 have hn2:∀ {d} {k},aj (aN cp t fuel (d+2)) (.func 246 []) [.ptr (H.n+1) 0] (G.put (H.n+1) (bN H.n (fX a n) pos)) k=k (.int 7 n) (G.put (H.n+1) (bN H.n (fX a n) (pos+(bE n).length))):=λ{d k}=>by
  rw [kQ T (by rw [Heap.bF];omega) (by rw [Heap.aE gw hrn,if_pos rfl]) (by rw [Heap.aR];omega) (by rw [Heap.aE gw hrn,if_neg hne];omega) hne (by omega) (by omega) hd2 hfu,Heap.iU]
 have fG2:af H (G.put (H.n+1) (bN H.n (fX a n) (pos+(bE n).length))):=af.put fG (by omega) hrn
 have hok:∀ {d} {k},aj (aN cp t fuel (d+1)) (.func 428 []) [.ptr (H.n+1) 0] (G.put (H.n+1) (bN H.n (fX a n) (pos+(bE n).length))) k=k (.bool true) (G.put (H.n+1) (bN H.n (fX a n) (pos+(bE n).length))):=λ{d k}=>Mr T (by rw [Heap.aE gw hrn,if_pos rfl])
 obtain ⟨H3,hh,f3⟩:=py (cp:=cp) T fG2.wf ha hn hfu
 refine ⟨H3,λd k=>?_,fG2.trans f3⟩
 rw [show tv (fX a n) = .str 32 (enc (fX a n)) by rw [tv,hlen]]at hnr hh ⊢
 have e1:(dA (.lt 0 18446744073709551616) (a+1) 1=true)=False:=by rw [AL (by omega) (by omega)];exact propext ⟨λh=>by omega,False.elim⟩
 have e2:(dA (.gt 0 18446744073709551616) (a+1) 2=true)=False:=by rw [nU (by omega) (by omega)];exact propext ⟨λh=>by omega,False.elim⟩
 have e3:(dA (.gt 0 18446744073709551616) n 72=true)=False:=by rw [nU (by omega) (by omega)];exact propext ⟨λh=>by omega,False.elim⟩
 have e4:(a+1)%18446744073709551616=a+1:=by omega
 have e5:(a+1+18446744073709551615)%18446744073709551616=a:=by omega
 have e6:n%18446744073709551616=n:=by omega
 rw [ax T.aee rfl rfl]
 simp only [go_sem,acD,hnr,hn1,hn2,hok,hh,e1,e2,e3,e4,e5,e6,and_self]
theorem Ax (T:aA t) (hc:aY t) {p a n} {A} {O} (hD:cN H p A O) (ho:A.off=false) (hl:0<A.len) (hr:A.read 0=tx (fX a n)) (ha:a<2) (hn:n<=72) (hfu:8<fuel):
 ∃ H',(∀ (d) (k),aj (aN cp t fuel (d+5)) (.func 208 []) [.ptr p 0] H k=k (.cH [.int 3 a,.int 3 n,.int 3 0]) H')/\af H H':=by
 obtain ⟨H1,h1,f1⟩:=pQ (cp:=cp) (fuel:=fuel) (T.jh hc) hD ho hl
 obtain ⟨H2,h2,f2⟩:=Kx (cp:=cp) T f1.wf ha hn hfu
 refine ⟨H2,λd k=>?_,f1.trans f2⟩
 rw [hr,Zk]at h1
 rw [ax T.adE rfl rfl]
 simp only [go_sem,acb,h1,h2]
end
end Go.Ev
end
section
namespace Go.Ev
theorem af.dX {G G':Heap} (h:af G.mark G'):af G (G'.dX G.bz)/\G.n<=G'.bz:=
 ⟨⟨h.wf,h.n,h.same,λ_ h1 _=>h1⟩,h.lo G.n (YB _) (YB _)⟩
def vk (x:Tx):Prop:=x.2<256 ^ x.1
def IP (w:Wr):List UInt8:=aB w.2.1 w.2.2
theorem TZ {w} (h:vk w.2):tv (IP w) = .str w.2.1 w.2.2:=by
 unfold tv IP
 rw [aK,nv _ _ h]
theorem kY (w):(IP w).length=w.2.1:=aK _ _
def zJ (w:Wr):List UInt8:=bE w.1 ++ bE w.2.1 ++ IP w
def oz (ws:List Wr):List UInt8:=ws.flatMap zJ
theorem uO (w):(zJ w).length<=w.2.1+18:=by
 have h1:=bI w.1
 have h2:=bI w.2.1
 simp only [zJ,YC,kY]
 omega
theorem HA:∀ (ws),(∀ w ∈ ws,w.2.1<=1000)->(oz ws).length<=ws.length*1018
 | [],_=>by simp [oz]
 | w :: ws,h=>by
  have h1:=uO w
  have h2:=HA ws λv hv=>h v (YI _ hv)
  have h3:=h w (YJ ..)
  have:oz (w :: ws)=zJ w ++ oz ws:=rfl
  rw [this]
  simp only [YC,YH]
  omega
section
variable {cp:RC->ah} {t:Nat->Option cP} {fuel:Nat} {H:Heap}
set_option maxRecDepth 4000 in
theorem HE (T:aA t) {b c s n:Nat} {all:List Wr} (hfu:8<fuel) (hb:H.get b = .cells (bC all)) (hbn:b<H.n) (hn:n=all.length) (hnb:n<10000) (hall:∀ w ∈ all,w.1<18446744073709551616/\w.2.1<=1000/\vk w.2):
 ∀ (ws pre:List Wr) (acc:List UInt8) (G:Heap),all=pre ++ ws->acc.length+ws.length*1018<100000000->af H G->
 ∃ G',af H G'/\∀ (d:Nat) (kx:Nat->KE) (r:Nat) (e:Env) (v0:V),ws.length<r->ae s000 e=v0->ae s006 e=tv acc->ae s022 e = .slice b 0 n c s->ae s023 e = .int 3 n->ae s024 e = .int 3 pre.length->
  ∀ x:R,(∀ e',ae s000 e'=v0->ae s006 e'=tv (acc ++ oz ws)->kx 1 e' G'=x)->
  jQ BB fuel (aN cp t fuel (d+3)) kx r e G=x:=by
 intro ws
 induction ws with
 | nil=>
  intro pre acc G hal hac f
  refine ⟨G,f,λd kx r e v0 hr h0 h6 h22 h23 h24 x hT=>?_⟩
  obtain ⟨r,rfl⟩:∃ q,r=q+1:=⟨r-1,by omega⟩
  have hi:pre.length=n:=by rw [hn,hal,YR]
  have e1:¬ n<n:=by omega
  have e2:nn n:=by unfold nn;omega
  rw [ak]
  rw [hi]at h24
  simp only [go_sem,BB,h23,h24,e1,e2]
  exact hT _ h0 (by simp only [go_sem,h6,oz,QD])
 | cons w ws ih=>
  intro pre acc G hal hac f
  simp only [YH]at hac
  have hw:=f.wf
  obtain ⟨hw1,hw2,hw3⟩:=hall w (by rw [hal];simp)
  have hlt:pre.length<n:=by rw [hn,hal];simp only [YC,YH];omega
  have e1:nn pre.length:=by unfold nn;omega
  have e2:nn n:=by unfold nn;omega
  have e3:pre.length<9223372036854775808:=by omega
  have e4:pre.length*2<=(bC all).length:=by rw [dh,<- hn];omega
  have hd:(bC all).drop (pre.length*2) = .int 3 w.1 :: .str w.2.1 w.2.2 :: bC ws:=by rw [hal,qh];rfl
  have e5:=by omega
  have e8:G.n<G.n+1:=by omega
  have e9:(pre.length+1)%18446744073709551616=pre.length+1:=by omega
  have e10:w.1%18446744073709551616=w.1:=by omega
  have hbG:=(f.same b hbn).trans hb
  generalize hG1:(G.new (.cells [.int 3 0,.str 0 0])).put G.n (.cells [.int 3 w.1,.str w.2.1 w.2.2])=G1
  have f1:af H G1:=by rw [<- hG1];exact af.put (f.trans (af.new hw)) f.n (by simp only [Heap.aM];omega)
  have g1n:G1.get G.n = .cells [.int 3 w.1,.str w.2.1 w.2.2]:=by rw [<- hG1];simp only [Heap.aE,Heap.aD,Heap.aX,Heap.aM,hw,e8,if_true]
  have g1l:G.n<G1.n:=by rw [<- hG1];simp only [Heap.aR,Heap.aM];omega
  have rl:=uO w
  have pl1:=bI w.1
  obtain ⟨G2m,hc2,f2m⟩:=eT (H:=G1.mark) (cp:=cp) T (a:=acc) f1.wf (by omega) hw1 hfu
  obtain ⟨f2,hlo⟩:=f2m.dX
  generalize hG2:G2m.dX G1.bz=G2 at f2
  have g2n:=(f2.same _ g1l).trans g1n
  obtain ⟨G3,hc3,f3⟩:=CL (cp:=cp) T (a:=acc ++ bE w.1) (b:=IP w) f2.wf (by simp only [YC,kY];omega) hfu
  have hacc:acc ++ bE w.1 ++ bE (IP w).length ++ IP w=acc ++ zJ w:=by rw [kY];simp only [zJ,WA]
  rw [hacc,TZ hw3]at hc3
  obtain ⟨G',f',hG'⟩:=ih (pre ++ [w]) (acc ++ zJ w) G3 (by rw [hal];simp) (by rw [YC];omega) ((f1.trans f2).trans f3)
  refine ⟨G',f',λd kx r e v0 hr h0 h6 h22 h23 h24 x hT=>?_⟩
  obtain ⟨r,rfl⟩:∃ q,r=q+1:=⟨r-1,by omega⟩
  have hc2':=λ{d} {k}=>hc2 (d+1) k
  rw [ak]
  simp only [go_sem,BB,h6,h22,h23,h24,hlt,e1,e2,e3,e4,hd,e8,e9,e10,hbG,hw,hG1,g1n,hc2',hlo,hG2,g2n,hc3]
  refine hG' d kx r _ v0 (by simp only [YH]at hr;omega) ?_ ?_ ?_ ?_ ?_ x (λe' g0 g6=>hT e' g0 (by rw [g6];simp only [oz,Wb,WA]))<;>simp only [go_sem,h0,h22,h23]
end
end Go.Ev
end
section
namespace Go.Ev
structure cD (pk:List UInt8->List (List UInt8)) (unpk:List (List UInt8)->Option (List UInt8)):Prop where
 len:∀ t,t.length<=8192->∀ s ∈ pk t,s.length=32
 num:∀ t,t.length<=2240->(pk t).length<=72
 pos:∀ t,t.length<=8192->pk t≠[]
 back:∀ t,t.length<=8192->unpk (pk t)=some t
 size:∀ t,t.length<=8192->(pk t).length=(t.length+37)/32
 short:∀ t k,t.length<=8192->k<(pk t).length->unpk ((pk t).take k)=none
noncomputable def gI (pk:List UInt8->List (List UInt8)) (args:List V) (H:Heap) (k:K):R:=
 match args with
 | [.str l n]=>if l<=8192/\n<256 ^ l then cB H (.cells ((pk (aB l n)).map tv)) λb H'=>k (.cH [.slice b 0 (pk (aB l n)).length 0 1,.int 3 0]) H' else no 0
 | _=>no 0
def outs (area:Nat) (ps:List (List UInt8)):List Wr:=ps.mapIdx λi s=>(1+area*72+i,tx s)
theorem uM (area) (ps):(outs area ps).length=ps.length:=by simp [outs]
theorem N3 (area) (ps) (s):outs area (ps ++ [s])=outs area ps ++ [(1+area*72+ps.length,tx s)]:=by simp [outs,List.mapIdx_append]
def dD (ws:List Wr):List UInt8:=bE ws.length ++ oz ws
def zP (H G:Heap) (v:V) (ws:List Wr):Prop:=(v = .az/\ws=[])\/∃ b,v = .slice b 0 ws.length 0 2/\ws≠[]/\G.get b = .cells (bC ws)/\H.n<=b/\b<G.n
section
variable {cp:RC->ah} {t:Nat->Option cP} {fuel:Nat} {H:Heap}
theorem Eb (T:aA t) {a i d} {k} {G} (ha:a<2) (hi:i<1000000):
 aj (aN cp t fuel (d+1)) (.func 236 []) [.int 3 a,.int 3 i] G k=k (.int 3 (1+a*72+i)) G:=UM T ha hi
set_option maxRecDepth 4000 in
theorem CP (T:aA t) {b area n:Nat} {all:List (List UInt8)} (ha:area<2) (hn:n=all.length) (hnb:n<10000):
 ∀ (ps pre:List (List UInt8)) (G:Heap) (vo:V),all=pre ++ ps->af H G->zP H G vo (outs area pre)->G.get b = .cells (all.map tv)->b<G.n->(∀ bo l c s z,vo = .slice bo l c s z->b≠bo)->
 ∃ G' vo',af H G'/\zP H G' vo' (outs area all)/\∀ (d:Nat) (kx:Nat->KE) (r:Nat) (e:Env),ps.length<r->ae s000 e = .int 3 area->ae s013 e=vo->ae s055 e = .slice b 0 n 0 1->ae s056 e = .int 3 n->ae s057 e = .int 3 pre.length->
  ∀ x:R,(∀ e',ae s013 e'=vo'->kx 3 e' G'=x)->
  jQ wK fuel (aN cp t fuel (d+1)) kx r e G=x:=by
 intro ps
 induction ps with
 | nil=>
  intro pre G vo hal f hg hb hbn hbo
  have hal':all=pre:=by rw [hal,YR]
  rw [<- hal']at hg
  refine ⟨G,vo,f,hg,λd kx r e hr h0 h13 h55 h56 h57 x hT=>?_⟩
  obtain ⟨r,rfl⟩:∃ q,r=q+1:=⟨r-1,by simp only [YO]at hr;omega⟩
  have hi:pre.length=n:=by rw [hn,hal']
  have e1:¬ n<n:=by omega
  have e2:nn n:=by unfold nn;omega
  rw [ak]
  rw [hi]at h57
  simp only [go_sem,wK,h56,h57,e1,e2]
  exact hT _ h13
 | cons p ps ih=>
  intro pre G vo hal f hg hb hbn hbo
  have hw:=f.wf
  have hlt:pre.length<n:=by rw [hn,hal];simp only [YC,YH];omega
  have e1:nn pre.length:=by unfold nn;omega
  have e2:nn n:=by unfold nn;omega
  have e3:pre.length<9223372036854775808:=by omega
  have hget:(all.map tv)[pre.length]? = some (tv p):=by rw [hal];simp
  have hnth:∀ {id} {k},nth id (all.map tv) pre.length k=k (.str p.length (enc p)):=jT hget
  have e9:(pre.length+1)%18446744073709551616=pre.length+1:=by omega
  have hat:∀ {d} {k} {G},aj (aN cp t fuel (d+1)) (.func 236 []) [.int 3 area,.int 3 pre.length] G k=k (.int 3 (1+area*72+pre.length)) G:=λ{d k G}=>Eb T ha (by omega)
  have hbG:¬ b=G.n:=by omega
  have hos:=N3 area pre p
  have hol:=uM area pre
  have e20:2<=2:=YB _
  have e21:=by omega
  rcases hg with ⟨rfl,ho⟩|⟨bo,rfl,ho,hbo2,hbo3,hbo4⟩
  .have hp0:pre.length=0:=by rw [<- hol,ho];rfl
   have f2:af H ((G.new (.cells [.int 3 (1+area*72+pre.length),.str p.length (enc p)])).new (.cells [.int 3 (1+area*72+pre.length),.str p.length (enc p)])):=(f.trans (af.new hw)).trans (af.new (by rw [Heap.aX];exact hw))
   have gn:((G.new (.cells [.int 3 (1+area*72+pre.length),.str p.length (enc p)])).new (.cells [.int 3 (1+area*72+pre.length),.str p.length (enc p)])).n=G.n+1+1:=by simp only [Heap.aM]
   obtain ⟨G',vo',f',hg',hG'⟩:=ih (pre ++ [p]) _ (.slice (G.n+1) 0 1 0 2) (by rw [hal];simp) f2 (by
    refine YE ⟨G.n+1,by rw [hos,ho];rfl,by rw [hos];simp,?_,by have:=f.n;omega,by rw [gn];omega⟩
    rw [Heap.aD (by rw [Heap.aX];exact hw),if_pos (by rw [Heap.aM]),hos,ho]
    rfl) (by rw [Heap.aD (by rw [Heap.aX];exact hw),if_neg (by rw [Heap.aM];omega),Heap.aD hw,if_neg hbG];exact hb) (by rw [gn];omega) (λbo l c s z he=>by cases he;omega)
   refine ⟨G',vo',f',hg',λd kx r e hr h0 h13 h55 h56 h57 x hT=>?_⟩
   obtain ⟨r,rfl⟩:∃ q,r=q+1:=⟨r-1,by omega⟩
   rw [ak]
   simp only [go_sem,↓cW,wK,h0,h13,h55,h56,h57,hlt,e1,e2,e3,e9,hb,hnth,hat,hw,e20]
   refine hG' d kx r _ (by simp only [YH]at hr;omega) ?_ ?_ ?_ ?_ ?_ x hT<;>simp only [go_sem,h0,h55,h56]
  .have hbb:=hbo bo _ _ _ _ rfl
   have e4:¬ bo=G.n:=by omega
   have e5:bo<G.n+1:=by omega
   have e6:pre.length+1<=1073741824:=by omega
   have e7:(bC (outs area pre)).length=pre.length*2:=by rw [dh,hol]
   have gn:(((G.new (.cells [.int 3 (1+area*72+pre.length),.str p.length (enc p)])).put bo .dead).new (.cells (bC (outs area pre) ++ [.int 3 (1+area*72+pre.length),.str p.length (enc p)]))).n=G.n+1+1:=by simp only [Heap.aM,Heap.aR]
   have w1:((G.new (.cells [.int 3 (1+area*72+pre.length),.str p.length (enc p)])).put bo .dead).wf:=by simp only [Heap.bF,Heap.aX,hw]
   have n1:((G.new (.cells [.int 3 (1+area*72+pre.length),.str p.length (enc p)])).put bo .dead).n=G.n+1:=by simp only [Heap.aM,Heap.aR]
   have f2:af H (((G.new (.cells [.int 3 (1+area*72+pre.length),.str p.length (enc p)])).put bo .dead).new (.cells (bC (outs area pre) ++ [.int 3 (1+area*72+pre.length),.str p.length (enc p)]))):=(af.put (f.trans (af.new hw)) hbo3 (by rw [Heap.aM];omega)).trans (af.new w1)
   obtain ⟨G',vo',f',hg',hG'⟩:=ih (pre ++ [p]) _ (.slice (G.n+1) 0 (pre.length+1) 0 2) (by rw [hal];simp) f2 (by
    refine YE ⟨G.n+1,by rw [hos];simp [hol],by rw [hos];simp,?_,by omega,by omega⟩
    rw [Heap.aD w1,if_pos n1.symm,hos,er]
    rfl) (by rw [Heap.aD w1,if_neg (by omega),Heap.aE (by rw [Heap.aX];exact hw) (by rw [Heap.aM];omega),if_neg hbb,Heap.aD hw,if_neg hbG];exact hb) (by omega) (λbo l c s z he=>by cases he;omega)
   refine ⟨G',vo',f',hg',λd kx r e hr h0 h13 h55 h56 h57 x hT=>?_⟩
   obtain ⟨r,rfl⟩:∃ q,r=q+1:=⟨r-1,by omega⟩
   rw [hol]at h13
   rw [ak]
   simp only [go_sem,↓cW,wK,h0,h13,h55,h56,h57,hlt,e1,e2,e3,e9,hb,hnth,hat,hw,e20,e4,e5,e6,e7,hbo2]
   refine hG' d kx r _ (by simp only [YH]at hr;omega) ?_ ?_ ?_ ?_ ?_ x hT<;>simp only [go_sem,h0,h55,h56]
theorem Pj:∀ (k m n) (s),n<256 ^ k->(be m n s).length<=k+s.length
 | _,0,n,s,_=>by simp [be]
 | 0,m+1,n,s,h=>by simp at h;subst h;simp [be]
 | k+1,m+1,n,s,h=>by
  simp only [be]
  split
  .omega
  .have:=Pj k m (n/256) (UInt8.ofNat (n%256):: s) (by omega)
   simp only [YH]at this
   omega
theorem jm (k n) (h:n<256 ^ k):(bE n).length<=k+1:=by
 have:=Pj k 8 n [] h
 simp only [bE,YH,YO]at *
 omega
structure rR (ws:List Wr):Prop where
 num:ws.length<=60
 at_:∀ w ∈ ws,w.1<65536
 len:∀ w ∈ ws,w.2.1=32
 ok:∀ w ∈ ws,vk w.2
theorem Hz:∀ (ws),(∀ w ∈ ws,w.1<65536/\w.2.1=32)->(oz ws).length<=ws.length*37
 | [],_=>by simp [oz]
 | w :: ws,h=>by
  obtain ⟨h1,h2⟩:=h w (YJ ..)
  have h3:=Hz ws λv hv=>h v (YI _ hv)
  have:oz (w :: ws)=zJ w ++ oz ws:=rfl
  rw [this]
  have p1:=jm 2 w.1 (by omega)
  have p2:=jm 1 w.2.1 (by omega)
  simp only [YC,YH,zJ,kY]
  omega
theorem rR.text {ws:List Wr} (h:rR ws):(dD ws).length<=2240:=by
 have h1:=Hz ws λw hw=>⟨h.at_ w hw,h.len w hw⟩
 have p2:=jm 1 ws.length (by have:=h.num;omega)
 have h2:=h.num
 simp only [dD,YC]
 omega
set_option maxRecDepth 8000 in
theorem HD (T:aA t) {pk} {unpk} (F:cD pk unpk) (hp:t 102=some (.nat (gI pk))) {area} {v} {O} {ws} (hw:H.wf) (ha:area<2) (hv:mU H v ws O) (hr:rR ws) (h0:ws≠[]) (hfu:100<fuel):
 ∃ H' vo,(∀ (d) (k),aj (aN cp t fuel (d+4)) (.func 210 []) [.int 3 area,v] H k=k (.cH [vo,.int 3 0]) H')/\af H H'/\zP H H' vo (outs area (pk (dD ws))):=by
 rcases hv with ⟨_,h⟩|⟨b,c,s,rfl,hb,hbn,_⟩
 .exact absurd h h0
 have hnum:=hr.num
 have htl:=hr.text
 obtain ⟨H1,hc1,f1⟩:=eT (cp:=cp) (fuel:=fuel) T (a:=[]) (n:=ws.length) hw (by simp) (by omega) (by omega)
 have hl1:=bI ws.length
 obtain ⟨H2,f2,hL⟩:=HE (cp:=cp) (fuel:=fuel) (c:=c) (s:=s) T (by omega) ((f1.same b hbn).trans hb) (YD hbn f1.n) rfl (by omega) (λw hw=>⟨by have:=hr.at_ w hw;omega,by have:=hr.len w hw;omega,hr.ok w hw⟩) ws [] (bE ws.length) H1 rfl (by omega) (af.refl f1.wf)
 have hw2:=f2.wf
 have htx:bE ws.length ++ oz ws=dD ws:=rfl
 rw [htx]at hL
 have hpk:=F.num _ htl
 have hpl:∀ {d} {k},aj (aN cp t fuel (d+1)) (.func 204 []) [.str (dD ws).length (enc (dD ws))] H2 k=k (.cH [.slice H2.n 0 (pk (dD ws)).length 0 1,.int 3 0]) (H2.new (.cells ((pk (dD ws)).map tv))):=λ{d k}=>by
  rw [oO hp rfl rfl]
  simp only [gI,YR,fN]
  rw [if_pos ⟨by omega,jA _⟩,cE hw2]
 generalize dD ws=tx at hL hpk hpl htl ⊢
 have f3:af H (H2.new (.cells ((pk tx).map tv))):=(f1.trans f2).trans (af.new hw2)
 obtain ⟨H4,vo,f4,g4,hL2⟩:=CP (all:=pk tx) T ha rfl (by omega) (pk tx) [] (H2.new (.cells ((pk tx).map tv))) .az rfl (af.refl f3.wf) (YG ⟨rfl,rfl⟩) (by rw [Heap.aD hw2,if_pos rfl]) (by rw [Heap.aM];omega) (λ_ _ _ _ _ h=>by cases h)
 refine ⟨H4,vo,λd k=>?_,f3.trans f4,?_⟩
 .have e1:ws.length<9223372036854775808:=by omega
  have e2:ws.length%18446744073709551616=ws.length:=by omega
  have e3:(pk tx).length<9223372036854775808:=by omega
  have e4:¬ 72<(pk tx).length:=by omega
  have n72:nn 72:=by unfold nn;omega
  have e5:nn (pk tx).length:=by unfold nn;omega
  rw [show tv [] = .str 0 0 from rfl,YK]at hc1
  rw [ax T.adF rfl rfl]
  simp only [go_sem,ZE,acd,hc1,e1,e2]
  refine hL d _ fuel _ (.int 3 area) (by omega) ?_ ?_ ?_ ?_ ?_ _ (λe' g0 g6=>?_)
  .rfl
  .rfl
  .rfl
  .rfl
  .rfl
  .rw [show tv tx = .str tx.length (enc tx) from rfl]at g6
   simp only [go_sem,g6,hpl,e3,e4,e5,n72]
   refine hL2 _ _ fuel _ (by omega) ?_ ?_ ?_ ?_ ?_ _ (λe'' g13=>?_)
   .simp only [go_sem,g0]
   .rfl
   .rfl
   .rfl
   .rfl
   .simp only [go_sem,g13]
 .rcases g4 with g|⟨b',g1,g2,g3,g4,g5⟩
  .exact YG g
  .exact YE ⟨b',g1,g2,g3,Nat.le_trans f3.n g4,g5⟩
end
end Go.Ev
end
section
namespace Go.Ev
theorem dx:∀ (es:List (Nat × Tx)) (a) (v:Tx) (k),find (eS es a v) k=if k=a then some v else find es k
 | [],a,v,k=>by
  simp only [eS,find,Qz,List.find?_nil]
  by_cases h:k=a
  .simp_all
  .have:(a == k)=false:=by simpa using λe=>h e.symm
   simp [this,h]
 | p :: es,a,v,k=>by
  have ih:=dx es a v k
  simp only [eS]
  by_cases hp:p.1=a
  .rw [if_pos hp]
   simp only [find,Qz]at ih ⊢
   by_cases h:k=a
   .simp_all
   .have:(p.1 == k)=false:=by simpa using λe=>h (e.symm.trans hp)
    simp [this,h]
  .rw [if_neg hp]
   simp only [find,Qz]at ih ⊢
   by_cases h:p.1=k
   .simp_all
   .have h1:(p.1 == k)=false:=by simp_all
    simp only [h1]
    omega
theorem uA {p q} {a} (hpq:∀ k,q k=true->p k=true) (ha:p a=true) (hqa:q a=false):∀ {K:List Nat},a ∈ K->K.countP q+1<=K.countP p
 | [],h=>by cases h
 | b :: K,h=>by
  have hle:K.countP q<=K.countP p:=YJ2 λk _ hk=>hpq k hk
  simp only [List.countP_cons]
  by_cases hb:b=a
  .simp_all
  .have h':a ∈ K:=by
    rcases Yb.1 h with e|h
    .omega
    omega
   have ih:=uA hpq ha hqa h'
   by_cases hq:q b=true
   .simp_all
   .rw [if_neg hq];omega
theorem HG {room} {K ns:List Nat}:∀ {ws} {es:List (Nat × Tx)},(∀ w ∈ ws,w.1 ∈ ns)->(∀ n ∈ ns,(find es n).isSome=true\/n ∈ K)->(K=[]\/es.length+K.countP (λk=>(find es k).isNone)<=room)->roomy room es ws
 | [],_,_,_,_=>trivial
 | w :: ws,es,hw,hn,hK=>by
  have hwn:=hw w (YJ ..)
  have hn':∀ n ∈ ns,(find (eS es w.1 w.2) n).isSome=true\/n ∈ K:=λn h=>by
   rw [dx]
   split
   .simp
   simp_all
  refine ⟨?_,HG (λv hv=>hw v (YI _ hv)) hn' ?_⟩
  .by_cases hs:(find es w.1).isSome=true
   .simp_all
   .have hk:=(hn w.1 hwn).resolve_left hs
    rcases hK with rfl|hK
    .cases hk
    .have h1:(find es w.1).isNone=true:=by simp_all
     have:0<K.countP (λk=>(find es k).isNone):=List.countP_pos_iff.2 ⟨w.1,hk,h1⟩
     omega
  .rcases hK with hK|hK
   .simp_all
   .rw [lJ]
    by_cases hs:(find es w.1).isSome=true
    .rw [if_pos hs]
     have:K.countP (λk=>(find (eS es w.1 w.2) k).isNone)<=K.countP (λk=>(find es k).isNone):=YJ2 λk _ hk=>by
      rw [dx]at hk
      split at hk
      .cases hk
      omega
     omega
    .rw [if_neg hs]
     have hk:=(hn w.1 hwn).resolve_left hs
     have h1:(find es w.1).isNone=true:=by simp_all
     have:=uA (p:=λk=>(find es k).isNone) (q:=λk=>(find (eS es w.1 w.2) k).isNone) (λk hk=>by
      rw [dx]at hk
      split at hk
      .cases hk
      omega) h1 (by rw [dx,if_pos rfl];rfl) hk
     omega
theorem pF:∀ (D) (a v k),k ∈ (sZ D a v).map (·.1)↔k=a\/k ∈ D.map (·.1)
 | [],a,v,k=>by simp [sZ]
 | p :: D,a,v,k=>by
  have ih:=pF D a v k
  simp only [sZ]
  split
  .simp_all
  .simp only [YP,Yb,ih]
   constructor
   .rintro (h1|h1|h1)
    .omega
    .omega
    simp_all
   .rintro (h1|h1|h1)
    .omega
    .omega
    simp_all
theorem F5 {es:List (Nat × Tx)} {ns}:∀ (m),∀ i,i<m->(find es (ns.getD i 0)).isSome=false->ns.getD i 0 ∈ (vK es ns m).map (·.1)
 | 0,i,h,_=>by omega
 | m+1,i,h,hn=>by
  simp only [vK]
  by_cases hi:i=m
  .subst hi
   rw [if_neg (by simp_all),wW,pF]
   simp
  .have ih:=F5 m i (by omega) hn
   split
   .omega
   .rw [wW,pF];simp_all
def AD.fits (A:AD) (ns:List Nat):Bool:=decide ((vK A.es ns ns.length).length=0\/A.es.length+(vK A.es ns ns.length).length<=A.room)
theorem JP {A:AD} {ns} {ws} (h:A.fits ns=true) (hw:∀ w ∈ ws,w.1 ∈ ns):roomy A.room A.es ws:=by
 have h:=of_decide_eq_true h
 refine HG (K:=(vK A.es ns ns.length).map (·.1)) hw (λn hn=>?_) ?_
 .obtain ⟨i,hi,rfl⟩:=List.mem_iff_getElem.1 hn
  have hg:ns.getD i 0=ns[i]:=by simp_all
  by_cases hs:(find A.es ns[i]).isSome=true
  .simp_all
  .have:=F5 ns.length i hi (by rw [hg];simpa using hs)
   simp_all
 .rcases h with h|h
  .simp_all
  .have:=List.countP_le_length (p:=λk=>(find A.es k).isNone) (l:=(vK A.es ns ns.length).map (·.1))
   rw [Ys]at this
   omega
def vj (ns:List Nat):List V:=ns.map (V.int 3)
def IV (H G:Heap) (v:V) (ns:List Nat):Prop:=∃ b c s,v = .slice b 0 ns.length c s/\((c=2/\ns.length=1)\/(c=0/\s=1))/\G.get b = .cells (vj ns)/\H.n<=b/\b<G.n
section
variable {cp:RC->ah} {t:Nat->Option cP} {fuel:Nat} {H:Heap}
set_option maxRecDepth 4000 in
theorem Hq (T:aA t) {b c s n:Nat} {all:List Wr} (hn:n=all.length) (hnb:n<10000) (e6':n<10000):
 ∀ (ws pre:List Wr) (ns:List Nat) (G:Heap) (vp:V),all=pre ++ ws->ns.length+ws.length<20000->af H G->IV H G vp ns->G.get b = .cells (bC all)->b<G.n->(∀ bo l c s z,vp = .slice bo l c s z->b≠bo)->
 ∃ G' vp',af H G'/\IV H G' vp' (ns ++ ws.map (·.1))/\∀ (d:Nat) (kx:Nat->KE) (r:Nat) (e:Env) (v0 v1 v6 v11:V),ws.length<r->ae s000 e=v0->ae s001 e=v1->ae s006 e=v6->ae s011 e=v11->ae s012 e=vp->ae s071 e = .slice b 0 n c s->ae s072 e = .int 3 n->ae s073 e = .int 3 pre.length->
  ∀ x:R,(∀ e',ae s000 e'=v0->ae s001 e'=v1->ae s006 e'=v6->ae s011 e'=v11->ae s012 e'=vp'->kx 1 e' G'=x)->
  jQ El fuel (aN cp t fuel d) kx r e G=x:=by
 intro ws
 induction ws with
 | nil=>
  intro pre ns G vp hal hnl f hg hb hbn hbo
  refine ⟨G,vp,f,by simpa using hg,λd kx r e v0 v1 v6 v11 hr h0 h1 h6 h11 h12 h71 h72 h73 x hT=>?_⟩
  obtain ⟨r,rfl⟩:∃ q,r=q+1:=⟨r-1,by simp only [YO]at hr;omega⟩
  have hi:pre.length=n:=by rw [hn,hal,YR]
  have e1:¬ n<n:=by omega
  have e2:nn n:=by unfold nn;omega
  rw [ak]
  rw [hi]at h73
  simp only [go_sem,El,h72,h73,e1,e2]
  refine hT _ ?_ ?_ ?_ ?_ ?_<;>simp only [go_sem,h0,h1,h6,h11,h12]
 | cons w ws ih=>
  intro pre ns G vp hal hnl f hg hb hbn hbo
  simp only [YH]at hnl
  have hw:=f.wf
  have hlt:pre.length<n:=by rw [hn,hal];simp only [YC,YH];omega
  have e1:nn pre.length:=by unfold nn;omega
  have e2:nn n:=by unfold nn;omega
  have e3:pre.length<9223372036854775808:=by omega
  have e4:pre.length*2<=(bC all).length:=by rw [dh,<- hn];omega
  have hd:(bC all).drop (pre.length*2) = .int 3 w.1 :: .str w.2.1 w.2.2 :: bC ws:=by rw [hal,qh];rfl
  have e5:=by omega
  have e9:(pre.length+1)%18446744073709551616=pre.length+1:=by omega
  obtain ⟨bo,co,so,rfl,hcs,hbo2,hbo3,hbo4⟩:=hg
  have hbb:=hbo bo _ _ _ _ rfl
  have e8:G.n<G.n+1:=by omega
  have e10:¬ bo=G.n:=by omega
  have e11:¬ bo=G.n+1:=by omega
  have e12:bo<G.n+1+1:=by omega
  have e13:¬ b=G.n:=by omega
  have e14:¬ b=G.n+1:=by omega
  have e15:ns.length+1<=1073741824:=by omega
  have e16:(vj ns).length=ns.length:=by simp [vj]
  have hw1:((G.new (.cells [.int 3 0,.str 0 0])).put G.n (.cells [.int 3 w.1,.str w.2.1 w.2.2])).wf:=by simp only [Heap.bF,Heap.aX,hw]
  have f1:af H (((G.new (.cells [.int 3 0,.str 0 0])).put G.n (.cells [.int 3 w.1,.str w.2.1 w.2.2])).new (.cells [.int 3 w.1])):=(af.put (f.trans (af.new hw)) f.n (by simp only [Heap.aM];omega)).trans (af.new hw1)
  have hns:ns ++ (w :: ws).map (·.1)=(ns ++ [w.1]) ++ ws.map (·.1):=by simp
  rw [hns]
  have e20:=by omega
  rcases hcs with ⟨rfl,hl1⟩|⟨rfl,rfl⟩
  .have hone:∀ {id} {k},bu id (vj ns) k=k:=λ{id k}=>by
    obtain ⟨q,rfl⟩:∃ q,ns=[q]:=List.length_eq_one_iff.1 hl1
    rfl
   have e17:=YV (by rw [e16];exact YB _)
   have e18:ns.length<=(vj ns).length:=by rw [e16];exact YB _
   have f2:=f1.trans (af.new (x:=.cells (vj ns ++ [.int 3 w.1])) f1.wf)
   obtain ⟨G',vp',f',hg',hG'⟩:=ih (pre ++ [w]) (ns ++ [w.1]) _ (.slice (G.n+1+1) 0 (ns.length+1) 0 1) (by rw [hal];simp) (by simp only [YC,YH,YO];omega) f2 (by
    refine ⟨G.n+1+1,0,1,by simp,YE ⟨rfl,rfl⟩,?_,by omega,by simp only [Heap.aM,Heap.aR];omega⟩
    simp only [Heap.aD,Heap.bF,Heap.aX,Heap.aR,Heap.aM,hw,if_true,vj,WB,YP,Yc])
    (by
     have e30:¬ b=G.n+1+1:=by omega
     simp only [Heap.aE,Heap.aD,Heap.bF,Heap.aX,Heap.aR,Heap.aM,hw,e8,e13,e14,e30,if_false,hb]) (by simp only [Heap.aM,Heap.aR];omega) (λbo l c s z he=>by cases he;omega)
   refine ⟨G',vp',f',hg',λd kx r e v0 v1 v6 v11 hr h0 h1 h6 h11 h12 h71 h72 h73 x hT=>?_⟩
   obtain ⟨r,rfl⟩:∃ q,r=q+1:=⟨r-1,by omega⟩
   have e19:1<ns.length+1:=by omega
   have hgrow:∀ {id} {H} {new} {k},rX id 1 1 new bo 0 ns.length 2 so H k=bu id new (if ns.length+1<=1073741824 then ec id H bo 0 (ns.length*1) λl=>bu id l (cB H (.cells (l ++ new)) λb' H=>k (.slice b' 0 (ns.length+1) 0 1) H) else no 0):=λ{id H new k}=>iE e19
   rw [ak]
   simp only [go_sem,↓cW,El,h12,h71,h72,h73,hlt,e1,e2,e3,e4,hd,e8,e9,e10,e11,hb,hw,hgrow,hbo2,e15,e17,e18,hone]
   refine hG' d kx r _ v0 v1 v6 v11 (by simp only [YH]at hr;omega) ?_ ?_ ?_ ?_ ?_ ?_ ?_ ?_ x hT<;>simp only [go_sem,h0,h1,h6,h11,h71,h72]
  .have f2:=(f1.put (x:=.dead) hbo3 (by simp only [Heap.aM,Heap.aR];omega)).trans (af.new (x:=.cells (vj ns ++ [.int 3 w.1])) (by simp only [Heap.bF];exact f1.wf))
   obtain ⟨G',vp',f',hg',hG'⟩:=ih (pre ++ [w]) (ns ++ [w.1]) _ (.slice (G.n+1+1) 0 (ns.length+1) 0 1) (by rw [hal];simp) (by simp only [YC,YH,YO];omega) f2 (by
    refine ⟨G.n+1+1,0,1,by simp,YE ⟨rfl,rfl⟩,?_,by omega,by simp only [Heap.aM,Heap.aR];omega⟩
    simp only [Heap.aD,Heap.bF,Heap.aX,Heap.aR,Heap.aM,hw,if_true,vj,WB,YP,Yc])
    (by
     have e30:¬ b=G.n+1+1:=by omega
     have e31:=hbb
     simp only [Heap.aE,Heap.aD,Heap.bF,Heap.aX,Heap.aR,Heap.aM,hw,e8,e12,e13,e14,e30,e31,if_false,hb]) (by simp only [Heap.aM,Heap.aR];omega) (λbo l c s z he=>by cases he;omega)
   refine ⟨G',vp',f',hg',λd kx r e v0 v1 v6 v11 hr h0 h1 h6 h11 h12 h71 h72 h73 x hT=>?_⟩
   obtain ⟨r,rfl⟩:∃ q,r=q+1:=⟨r-1,by omega⟩
   rw [ak]
   simp only [go_sem,↓cW,El,h12,h71,h72,h73,hlt,e1,e2,e3,e4,hd,e8,e9,e10,e11,e12,hb,hw,hbo2,e15,e16]
   refine hG' d kx r _ v0 v1 v6 v11 (by simp only [YH]at hr;omega) ?_ ?_ ?_ ?_ ?_ ?_ ?_ ?_ x hT<;>simp only [go_sem,h0,h1,h6,h11,h71,h72]
end
end Go.Ev
end
section
namespace Go.Ev
def AD.eG (A:AD) (pk:List UInt8->List (List UInt8)) (a:Nat) (ws:List Wr):AD × Nat:=
 if A.off=true then (A,6) else if ws.length=0 then (A,0) else if 60<ws.length then (A,3) else if iq A.len [] ws=false then (A,2) else
  if A.fits (0 :: (outs (1-a) (pk (dD ws)) ++ ws).map (·.1))=true then A.runs [outs (1-a) (pk (dD ws)),[(0,tx (fX (1-a) (pk (dD ws)).length))],ws] else (A,7)
theorem iM:∀ {ws} {len} {seen},iq len seen ws=true->(∀ w ∈ ws,qO len w/\w.1 ∉ seen)/\(ws.map (·.1)).Nodup
 | [],_,_,_=>⟨λ_ h=>(by cases h),List.nodup_nil⟩
 | w :: ws,len,seen,h=>by
  simp only [iq]at h
  split at h
  .obtain ⟨h1,h2⟩:=iM h
   grind
  simp_all
theorem yp {area} {ps} {w} (h:w ∈ outs area ps):∃ i,∃ h':i<ps.length,w=(1+area*72+i,tx ps[i]):=by
 simp only [outs,List.mem_mapIdx]at h
 grind
theorem oH:∀ {ws} {id} {k},bu id (bC ws) k=k
 | [],_,_=>rfl
 | w :: ws,id,k=>by
  rw [mA,lC,lC,AA,AE]
  exact oH
section
variable {cp:RC->ah} {t:Nat->Option cP} {fuel:Nat} {H:Heap}
theorem RM (T:jw t) {p b c s} {A} {O} {ns} (hD:cN H p A O) (ho:A.off=false) (hb:H.get b = .cells (vj ns)) (hbn:b<H.n) (hns:∀ v ∈ ns,v<A.len) (hnb:ns.length<1000000) (heb:A.es.length<1000000) (hfu:ns.length<fuel):
 ∃ H',(∀ (d) (k),aj (aN cp t fuel (d+5)) (.func 212 []) [.ptr p 0,.slice b 0 ns.length c s] H k=k (.bool (A.fits ns)) H')/\af H H':=by
 obtain ⟨D,h,h1,h2,h3,h4,rfl⟩:=hD
 obtain ⟨H',g1,g2,g3,g4,g5⟩:=Nw (off:=0) T.toTDisk3 h.wf h.hp h.hg h.hm h.sD hb hbn (h4.trans ho) h.hl h.hr (by simp [vj]) (λi v hv=>by simp [vj,hv]) (λv hv=>by simp_all) hnb heb hfu
 refine ⟨H',λd k=>?_,g2,g3,g4,g5⟩
 rw [g1,h2]
 rfl
structure qb (A:AD) (a n:Nat):Prop where
 lo:145<=A.len
 hi:A.len<=1024
 es:A.es.length<100000
 us:A.us.length<50000
 head:A.read 0=tx (fX a n)
 a:a<2
 n:n<=72
theorem BS (T:aA t) (hc:aY t) {pk} {p a} {A} {O} {v} {ws} (hD:cN H p A O) (hl:A.len<=1024) (hv:mU H v ws O) (hws:∀ w ∈ ws,w.1<18446744073709551616/\w.2.1<1000000) (hnb:ws.length<10000) (hfu:ws.length<fuel)
 (h:A.off=true\/ws.length=0\/60<ws.length\/iq A.len [] ws=false):
 ∃ H',(∀ (d) (k),aj (aN cp t fuel (d+7)) (.func 80 []) [.ptr p 0,v] H k=k (.int 3 (A.eG pk a ws).2) H')/\af H H'/\(A.eG pk a ws).1=A:=by
 have hw:=hD.wf
 have hr:∀ {d} {k},aj (aN cp t fuel (d+3)) (.func 194 []) [.ptr p 0] H k=k (.int 3 (if A.off=true then 6 else 0)) H:=λ{d k}=>nH T hc hD
 obtain ⟨H1,hm,f1⟩:=yc (cp:=cp) T hc hD (by unfold nn;omega) hv hws (by omega) hfu
 have e1:ws.length<9223372036854775808:=by omega
 have n60:nn 60:=by unfold nn;omega
 have nl:nn ws.length:=by unfold nn;omega
 have hr2:∀ {d} {k},aj (aN cp t fuel (d+1+1+1)) (.func 194 []) [.ptr p 0] H k=k (.int 3 (if A.off=true then 6 else 0)) H:=λ{d k}=>hr
 unfold AD.eG
 by_cases ho:A.off=true
 .refine ⟨H,λd k=>?_,af.refl hw,by grind⟩
  rw [if_pos ho,ax T.Y8 rfl rfl]
  rw [ho]at hr
  simp only [go_sem,XX,hr]
 .simp only [ho,if_false,false_or,Bool.false_eq_true]at h hr ⊢
  rcases hv with ⟨rfl,rfl⟩|⟨b,c,s,rfl,hb,hbn,hbO⟩
  .refine ⟨H,λd k=>?_,af.refl hw,by simp⟩
   rw [ax T.Y8 rfl rfl]
   simp only [go_sem,ZE,XX,hr]
  .by_cases h0:ws.length=0
   .refine ⟨H,λd k=>?_,af.refl hw,by grind⟩
    rw [ax T.Y8 rfl rfl]
    simp only [go_sem,ZE,XX,hr,h0]
   .simp only [h0,if_false,false_or]at h ⊢
    by_cases h6:60<ws.length
    .refine ⟨H,λd k=>?_,af.refl hw,by grind⟩
     rw [ax T.Y8 rfl rfl]
     simp only [go_sem,XX,hr,h0,e1,n60,nl,h6]
    .simp only [h6,if_false,false_or]at h ⊢
     refine ⟨H1,λd k=>?_,f1,by rw [if_pos h]⟩
     rw [ax T.Y8 rfl rfl]
     have hm':=λ{d} {k}=>hm (d+4) k
     simp only [go_sem,XX,hr,h0,e1,n60,nl,h6,hm',h]
set_option maxRecDepth 8000 in
theorem uy (T:aA t) (hc:aY t) {pk:List UInt8->List (List UInt8)} {unpk:List (List UInt8)->Option (List UInt8)} (F:cD pk unpk) (hp:t 102=some (.nat (gI pk)))
 {p a n:Nat} {A:AD} {O:Nat->Prop} {v:V} {ws:List Wr} (hD:cN H p A O) (C:qb A a n) (hv:mU H v ws O) (hws:∀ w ∈ ws,w.1<18446744073709551616/\w.2.1<1000000/\vk w.2) (hnb:ws.length<10000) (hfu:10000<fuel):
 ∃ H' O',(∀ (d:Nat) (k:K),aj (aN cp t fuel (d+7)) (.func 80 []) [.ptr p 0,v] H k=k (.int 3 (A.eG pk a ws).2) H')/\Step H O H' O'/\cN H' p (A.eG pk a ws).1 O':=by
 by_cases hsm:A.off=true\/ws.length=0\/60<ws.length\/iq A.len [] ws=false
 .obtain ⟨H',g1,g2,g3⟩:=BS (fuel:=fuel) T hc hD C.hi hv (λw hw=>⟨(hws w hw).1,(hws w hw).2.1⟩) hnb (by omega) hsm
  exact ⟨H',O,g1,g2.step,by rw [g3];exact hD.fresh g2⟩
 .have ho:A.off=false:=by
   cases h:A.off with
   | true=>exact absurd (YG h) hsm
   | false=>rfl
  have h0:¬ ws.length=0:=λh=>hsm (YE (YG h))
  have h6:¬ 60<ws.length:=λh=>hsm (YE (YE (YG h)))
  have hmay:iq A.len [] ws=true:=by
   cases h:iq A.len [] ws with
   | false=>exact absurd (YE (YE (YE h))) hsm
   | true=>rfl
  have hcm:A.eG pk a ws=if A.fits (0 :: (outs (1-a) (pk (dD ws)) ++ ws).map (·.1))=true then A.runs [outs (1-a) (pk (dD ws)),[(0,tx (fX (1-a) (pk (dD ws)).length))],ws] else (A,7):=by
   unfold AD.eG
   rw [if_neg (by rw [ho];exact Bool.false_ne_true),if_neg h0,if_neg h6,if_neg (by rw [hmay];exact Bool.noConfusion)]
  obtain ⟨k1,k2,k3,k4,k5,k6,k7⟩:=C
  obtain ⟨hgood,_⟩:=iM hmay
  have hne:ws≠[]:=λh=>h0 (by rw [h];rfl)
  have hrec:rR ws:=⟨by omega,λw hw=>by have:=(hgood w hw).1.2.1;omega,λw hw=>(hgood w hw).1.2.2,λw hw=>(hws w hw).2.2⟩
  have htl:=hrec.text
  have hpkn:=F.num _ htl
  have hpkp:=F.pos (dD ws) (by omega)
  have hpkl:=F.len (dD ws) (by omega)
  have hw:=hD.wf
  have ha1:1-a<2:=by omega
  have hr:∀ {d} {k},aj (aN cp t fuel (d+3)) (.func 194 []) [.ptr p 0] H k=k (.int 3 0) H:=λ{d k}=>by
   rw [nH T hc hD,ho]
   rfl
  obtain ⟨H1,hm1,f1⟩:=yc (cp:=cp) (fuel:=fuel) T hc hD (by unfold nn;omega) hv (λw hw=>⟨(hws w hw).1,(hws w hw).2.1⟩) (by omega) (by omega)
  rw [hmay]at hm1
  obtain ⟨H2,hh2,f2⟩:=Ax (cp:=cp) (fuel:=fuel) T hc (hD.fresh f1) ho (by omega) k5 k6 k7 (by omega)
  have f12:=f1.trans f2
  obtain ⟨H3,vo,hr3,f3,g3⟩:=HD (cp:=cp) (fuel:=fuel) T F hp f2.wf ha1 (hv.fresh f12) hrec hne (by omega)
  have f13:=f12.trans f3
  have hol:=uM (1-a) (pk (dD ws))
  have hmem:∀ w ∈ outs (1-a) (pk (dD ws)),w.1<145/\w.2.1=32:=λw hw=>by
   obtain ⟨i,hi,rfl⟩:=yp hw
   refine ⟨by show 1+(1-a)*72+i<145;omega,hpkl _ (List.getElem_mem hi)⟩
  generalize hfi:outs (1-a) (pk (dD ws))=first at hcm g3 hol hmem
  generalize hm:(pk (dD ws)).length=m at hcm hpkn hol
  have hfne:first≠[]:=λh=>by
   rw [h]at hol
   have hm0:(pk (dD ws)).length=0:=by rw [hm];exact hol.symm
   exact hpkp (YQ hm0)
  have hm0:=λh=>hfne (YQ (hol.trans h))
  obtain ⟨bo,rfl,hbo2,hbo3,hbo4⟩:∃ bo,vo = .slice bo 0 m 0 2/\H3.get bo = .cells (bC first)/\H2.n<=bo/\bo<H3.n:=by
   rcases g3 with ⟨_,h⟩|⟨bo,h1,h2,h3,h4,h5⟩
   .exact absurd h hfne
   .exact ⟨bo,by rw [h1,hol],h3,h4,h5⟩
  have hboO:¬ O bo:=λh=>by have:=hD.lt bo h;have:=f12.n;omega
  obtain ⟨b,c,s,rfl,hb,hbn,hbO⟩:∃ b c s,v = .slice b 0 ws.length c s/\H.get b = .cells (bC ws)/\b<H.n/\¬ O b:=by
   rcases hv with ⟨_,h⟩|h
   .exact absurd h hne
   .exact h
  have hv3:mU H (.slice b 0 ws.length c s) ws O:=YE ⟨b,c,s,rfl,hb,hbn,hbO⟩
  have hw3:=f3.wf
  have f4:af H ((H3.new (.cells [.int 3 0])).new (.cells (bC first ++ bC ws))):=(f13.trans (af.new hw3)).trans (af.new (by rw [Heap.aX];exact hw3))
  generalize hH4:(H3.new (.cells [.int 3 0])).new (.cells (bC first ++ bC ws))=H4 at f4
  have f34:af H3 H4:=by rw [<- hH4];exact (af.new hw3).trans (af.new (by rw [Heap.aX];exact hw3))
  have h4n:H4.n=H3.n+1+1:=by rw [<- hH4];simp only [Heap.aM]
  have h4a:H4.get H3.n = .cells [.int 3 0]:=by
   rw [<- hH4,Heap.aD (by rw [Heap.aX];exact hw3),if_neg (by rw [Heap.aM];omega),Heap.aD hw3,if_pos rfl]
  have h4b:H4.get (H3.n+1) = .cells (bC (first ++ ws)):=by
   rw [<- hH4,Heap.aD (by rw [Heap.aX];exact hw3),if_pos (by rw [Heap.aM]),er]
  have hpl4:IV H3 H4 (.slice H3.n 0 1 2 0) [0]:=⟨H3.n,2,0,rfl,YG ⟨rfl,rfl⟩,h4a,YB _,by omega⟩
  obtain ⟨H5,vp,f35,⟨bp,cp5,sp5,rfl,_,hp2,hp3,hp4⟩,hL⟩:=Hq (cp:=cp) (fuel:=fuel) (c:=0) (s:=2) (all:=first ++ ws) T rfl (by rw [YC];omega) (by rw [YC];omega) (first ++ ws) [] [0] H4 (.slice H3.n 0 1 2 0) rfl (by rw [YC];simp only [YH,YO];omega) f34 hpl4 h4b (by omega) (λbo l c s z he=>by cases he;omega)
  have f5:=f13.trans f35
  have hnsl:([0] ++ (first ++ ws).map (λw:Wr=>w.1)).length=m+ws.length+1:=by simp only [YC,Ys,YH,YO];omega
  obtain ⟨H6,hf6,f56⟩:=RM (cp:=cp) (fuel:=fuel) (c:=cp5) (s:=sp5) (T.jh hc) (hD.fresh f5) ho hp2 hp4 (λx hx=>by
   simp only [YL,YK,Yb,WB,List.mem_append,List.mem_map]at hx
   rcases hx with rfl|⟨w,hw,rfl⟩|⟨w,hw,rfl⟩
   .omega
   .have:=(hmem w hw).1;omega
   .exact (hgood w hw).1.2.1) (by rw [hnsl];omega) (by omega) (by rw [hnsl];omega)
  have f6:=f5.trans f56
  have f36:=f35.trans f56
  have hfirst:mU H3 (.slice bo 0 m 0 2) first O:=YE ⟨bo,0,2,by rw [hol],hbo2,hbo4,hboO⟩
  obtain ⟨H7,F1,ha7,f67,hA1⟩:=oI (cp:=cp) (fuel:=fuel) T (p:=p) f6.wf (λx hx=>YD (hD.lt x hx) f6.n) (hfirst.fresh f36)
  have f7:=f6.trans f67
  obtain ⟨H8,hh8,f78⟩:=py (cp:=cp) (fuel:=fuel) T f7.wf ha1 hpkn (by omega)
  have f8:=f7.trans f78
  have hw8:=f8.wf
  have hhl:=nA (1-a) m
  rw [show tv (fX (1-a) m) = .str 32 (enc (fX (1-a) m)) by rw [tv,hhl]]at hh8
  have f89:af H8 (H8.new (.cells [.int 3 0,.str 32 (enc (fX (1-a) m))])):=af.new hw8
  have h9b:(H8.new (.cells [.int 3 0,.str 32 (enc (fX (1-a) m))])).get H8.n = .cells [.int 3 0,.str 32 (enc (fX (1-a) m))]:=by rw [Heap.aD hw8,if_pos rfl]
  have h9n:(H8.new (.cells [.int 3 0,.str 32 (enc (fX (1-a) m))])).n=H8.n+1:=Heap.aM
  generalize hH9:H8.new (.cells [.int 3 0,.str 32 (enc (fX (1-a) m))])=H9 at f89 h9b h9n
  have f9:=f8.trans f89
  have hhd:mU H9 (.slice H8.n 0 1 2 0) [(0,tx (fX (1-a) m))] O:=YE ⟨H8.n,2,0,rfl,by rw [h9b];simp only [bC,Wb,QD,X8,tx,hhl,YR],by omega,λh=>by have:=hD.lt _ h;have:=f8.n;omega⟩
  obtain ⟨H10,F2,ha10,f910,hA2⟩:=oI (cp:=cp) (fuel:=fuel) T (p:=p) f9.wf (λx hx=>YD (hD.lt x hx) f9.n) hhd
  have f10:=f9.trans f910
  obtain ⟨H11,F3,ha11,f1011,hA3⟩:=oI (cp:=cp) (fuel:=fuel) T (p:=p) f10.wf (λx hx=>YD (hD.lt x hx) f10.n) (hv3.fresh f10)
  have f11:=f10.trans f1011
  have hw11:=f11.wf
  have f1112:af H11 (H11.new (.cells [F1,F2,F3])):=af.new hw11
  have hA1':=hA1.cG ((((f78.trans f89).trans f910).trans f1011).trans f1112).step
  have hA2':=hA2.cG (f1011.trans f1112).step
  have hA3':=hA3.cG f1112.step
  have f12':=f11.trans f1112
  have fin:A.fits (0 :: (first ++ ws).map (·.1))=true->∃ H' O',(∀ (d) (k),aj (aN cp t fuel (d+5)) (.func 196 []) [.slice H11.n 0 3 4 0] (H11.new (.cells [F1,F2,F3])) k=k (.int 3 (A.runs [first,[(0,tx (fX (1-a) m))],ws]).2) H')/\Step H O H' O'/\cN H' p (A.runs [first,[(0,tx (fX (1-a) m))],ws]).1 O':=λhfit=>by
   obtain ⟨H',O',g1,g2,g3⟩:=yD (fs:=[(F1,first),(F2,[(0,tx (fX (1-a) m))]),(F3,ws)]) T hc (hD.fresh f12') (by
    refine ⟨ho,λus hus=>?_,?_,λus hus w hw=>?_,JP hfit λw hw=>?_⟩
    .grind
    .simp only [YP,Yc,WU,YC2,YC,YH,YO]
     omega
    .simp only [YP,Yc,Yb,Wa,or_false]at hus
     rcases hus with rfl|rfl|rfl
     .have:=hmem w hw;exact ⟨by omega,this.2⟩
     .rw [YU.1 hw];exact ⟨by show 0<A.len;omega,hhl⟩
     .exact ⟨(hgood w hw).1.2.1,(hgood w hw).1.2.2⟩
    grind) (λf hf=>by
    simp only [Yb,Wa,or_false]at hf
    rcases hf with rfl|rfl|rfl
    .exact ⟨hA1',by show first.length<10000;omega,by show first.length<fuel;omega⟩
    .exact ⟨hA2',by show 1<10000;omega,by show 1<fuel;omega⟩
    .exact ⟨hA3',by show ws.length<10000;omega,by show ws.length<fuel;omega⟩) (by rw [Heap.aD hw11,if_pos rfl];rfl) (by rw [Heap.aM];omega) (λh=>by have:=hD.lt _ h;have:=f11.n;omega) (by simp) (by simp only [YH,YO];omega)
   exact ⟨H',O',g1,f12'.step.trans g2,g3⟩
  obtain ⟨B10,B11,B12,v1,rfl,_⟩:=hA1
  obtain ⟨B20,B21,B22,v2,rfl,_⟩:=hA2
  obtain ⟨B30,B31,B32,v3,rfl,_⟩:=hA3
  clear hA1' hA2' hA3'
  have e1:ws.length<9223372036854775808:=by omega
  have n60:nn 60:=by unfold nn;omega
  have nl:nn ws.length:=by unfold nn;omega
  have e2:(1+(18446744073709551616-a))%18446744073709551616=1-a:=by omega
  have e3:m<9223372036854775808:=by omega
  have e4:bo≠H3.n:=by omega
  have e5:b≠H3.n:=by have:=f13.n;omega
  have e6:¬ m=0:=hm0
  have hb3:H3.get b = .cells (bC ws):=(f13.same b hbn).trans hb
  have e7:ws.length*2<=(bC ws).length:=by rw [dh];exact YB _
  have e8:(bC ws).take (ws.length*2)=bC ws:=YV (by rw [dh];exact YB _)
  have e9:m*2<=(bC first).length:=by rw [dh,hol];exact YB _
  have e10:(bC first).take (m*2)=bC first:=YV (by rw [dh,hol];exact YB _)
  have e11:m<m+ws.length:=by omega
  have e12:m+ws.length<=1073741824:=by omega
  have e13:m+ws.length<9223372036854775808:=by omega
  have e14:m-0+1=m+1:=by omega
  have hgrow:∀ {id} {G} {new} {k},rX id 2 ws.length new bo 0 m (m+1) 0 G k=bu id new (if m+ws.length<=1073741824 then ec id G bo 0 (m*2) λl=>bu id l (cB G (.cells (l ++ new)) λb' G=>k (.slice b' 0 (m+ws.length) 0 2) G) else no 0):=λ{id G new k}=>iE e11
  have hal:(first ++ ws).length=m+ws.length:=by rw [YC,hol]
  rw [hal]at hL
  have hm1':=λ{d} {k}=>hm1 (d+4) k
  have hh2':=λ{d} {k}=>hh2 (d+1) k
  have hr3':=λ{d} {k}=>hr3 (d+2) k
  have hlq:([0] ++ (first ++ ws).map (λw:Wr=>w.1)).length=first.length+ws.length+1:=by simp only [YC,Ys,YH,YO];omega
  rw [hlq]at hf6
  have hf6':=λ{d} {k}=>hf6 (d+1) k
  have ha7':=λ{d} {k}=>ha7 (d+5) k
  have hh8':=λ{d} {k}=>hh8 (d+3) k
  have ha10':=λ{d} {k}=>ha10 (d+5) k
  have ha11':=λ{d} {k}=>ha11 (d+5) k
  rw [hcm]
  by_cases hfit:A.fits (0 :: (first ++ ws).map (·.1))=true
  .obtain ⟨H',O',g1,g2,g3⟩:=fin hfit
   rw [if_pos hfit]
   refine ⟨H',O',λd k=>?_,g2,g3⟩
   have g1':=λ{d} {k}=>g1 (d+1) k
   have hfit':A.fits (0 :: (first ++ ws).map (·.1))=true:=hfit
   rw [ax T.Y8 rfl rfl]
   simp only [go_sem,↓cW,ZE,XX,hr,h0,h6,e1,n60,nl,hm1',hh2',hr3',e2,e3,e6,hw3,hbo2,hb3,e4,e5,e7,e8,hgrow,oH,e9,e10,e12,e13,hH4,QQ]
   refine hL _ _ fuel _ (.ptr p 0) (.slice b 0 ws.length c s) (.int 3 a) (.slice bo 0 m 0 2) (by omega) ?_ ?_ ?_ ?_ ?_ ?_ ?_ ?_ _ (λe' q0 q1 q6 q11 q12=>?_)
   .rfl
   .rfl
   .rfl
   .rfl
   .rfl
   .rfl
   .rfl
   .rfl
   .simp only [go_sem,q0,q1,q6,q11,q12,hf6',hfit',ha7',e2,e3,hh8',hw8,hH9,ha10',ha11',hw11,g1']
  .rw [if_neg hfit]
   have hfit':A.fits (0 :: (first ++ ws).map (·.1))=false:=by
    cases h:A.fits (0 :: (first ++ ws).map (·.1)) with
    | true=>exact absurd h hfit
    | false=>rfl
   refine ⟨H6,O,λd k=>?_,f6.step,hD.fresh f6⟩
   rw [ax T.Y8 rfl rfl]
   simp only [go_sem,↓cW,ZE,XX,hr,h0,h6,e1,n60,nl,hm1',hh2',hr3',e2,e3,e6,hw3,hbo2,hb3,e4,e5,e7,e8,hgrow,oH,e9,e10,e12,e13,hH4,QQ]
   refine hL _ _ fuel _ (.ptr p 0) (.slice b 0 ws.length c s) (.int 3 a) (.slice bo 0 m 0 2) (by omega) ?_ ?_ ?_ ?_ ?_ ?_ ?_ ?_ _ (λe' q0 q1 q6 q11 q12=>?_)
   .rfl
   .rfl
   .rfl
   .rfl
   .rfl
   .rfl
   .rfl
   .rfl
   .simp only [go_sem,q0,q12,hf6',hfit']
end
end Go.Ev
end
section
namespace Go.Ev
theorem xC:∀ (l) (i),enc l >>> (8*i)=enc (l.drop i)
 | l,0=>by simp
 | [],i+1=>by simp [enc]
 | x :: l,i+1=>by
  have hx:=x.toNat_lt
  rw [List.drop_succ_cons,<- xC l i,show 8*(i+1)=8+8*i by omega,YM2]
  congr 1
  simp only [enc]
  omega
theorem Rw (l) (n) (h:n<=l.length):enc l%256 ^ n=enc (l.take n):=by
 have h1:=iL (l.take n) (l.drop n)
 have h2:=jA (l.take n)
 rw [List.take_append_drop,WI,QZ h]at h1
 rw [WI,QZ h]at h2
 rw [h1,Wo,Nat.add_mul_mod_self_left,WE h2]
theorem j8 {all a rest:List UInt8} {pos} (h:all.drop pos=a ++ rest):all.drop (pos+a.length)=rest:=by
 rw [<- List.drop_drop,h,YJ4]
section
variable {cp:RC->ah} {t:Nat->Option cP} {fuel:Nat} {H:Heap}
theorem OB (T:aA t) {d r b pos} {k} {all x rest} (hw:H.wf) (hr:H.get r=bN b all pos) (hrn:r<H.n) (hb:H.get b = .bytes all.length (enc all)) (hbr:b≠r) (hlen:all.length<1000000) (hd:all.drop pos=bE x.length ++ (x ++ rest)) (hfu:8<fuel):
 aj (aN cp t fuel (d+3)) (.func 374 []) [.ptr r 0] H k=k (tv x) (H.put r (bN b all (pos+(bE x.length ++ x).length))):=by
 have hx:=congrArg Wv hd
 simp only [WM,YC]at hx
 have hd2:=j8 hd
 have hp1:1<=(bE x.length).length:=by simp [bE]
 have hpos:pos+(bE x.length).length+x.length<=all.length:=by omega
 have h1:∀ {k},aj (aN cp t fuel (d+2)) (.func 246 []) [.ptr r 0] H k=k (.int 7 x.length) (H.put r (bN b all (pos+(bE x.length).length))):=λ{k}=>kQ T hw hr hrn hb hbr hlen (by omega) hd hfu
 have h2:∀ {k},aj (aN cp t fuel (d+2)) (.func 378 []) [.ptr r 0,.int 7 x.length] (H.put r (bN b all (pos+(bE x.length).length))) k=k (.slice b (pos+(bE x.length).length) x.length (x.length+1) 0) (H.put r (bN b all (pos+(bE x.length ++ x).length))):=λ{k}=>by
  rw [ui T (by rw [Heap.bF];omega) (by rw [Heap.aE hw hrn,if_pos rfl]) (by rw [Heap.aR];omega) hlen (by omega),Heap.iU,YC,Nat.add_assoc]
 have hb2:(H.put r (bN b all (pos+(bE x.length ++ x).length))).get b = .bytes all.length (enc all):=by rw [Heap.aE hw hrn,if_neg hbr];omega
 have h3:enc all >>> (8*(pos+(bE x.length).length))%256 ^ x.length=enc x:=by
  rw [xC,hd2,Rw _ _ (by simp),List.take_left]
 generalize H.put r (bN b all (pos+(bE x.length ++ x).length))=G at h2 hb2 ⊢
 rw [show tv x = .str x.length (enc x) from rfl,ax T.aej rfl rfl]
 simp only [go_sem,acF,h1,h2,hb2,hpos,h3]
theorem Rx (T:aA t) {d r b} {k} {all} (hr:H.get r=bN b all all.length):
 aj (aN cp t fuel (d+2)) (.func 376 []) [.ptr r 0] H k=k (.bool true) H:=by
 have h1:∀ {k},aj (aN cp t fuel (d+1)) (.func 428 []) [.ptr r 0] H k=k (.bool true) H:=λ{k}=>Mr T hr
 have e1:=by omega
 unfold bN at hr
 rw [ax T.aek rfl rfl]
 simp only [go_sem,ZE,acG,h1,hr,Nat.sub_self]
set_option maxRecDepth 4000 in
theorem Cp (T:aA t) {b r n:Nat} {text:List UInt8} {all:List Wr} (hfu:8<fuel) (hlen:text.length<1000000) (hn:n=all.length) (hnb:n<10000) (hb0:H.get b = .bytes text.length (enc text)) (hbn:b<H.n) (hall:∀ w ∈ all,w.1<=1024/\w.2.1<=1000/\vk w.2):
 ∀ (ws pre:List Wr) (G:Heap) (vo:V) (pos:Nat),all=pre ++ ws->af H G->zP H G vo pre->text.drop pos=oz ws->pos<=text.length->G.get r=bN b text pos->H.n<=r->r<G.n->(∀ bo l c s z,vo = .slice bo l c s z->r≠bo)->
 ∃ G' vo',af H G'/\zP H G' vo' all/\G'.get r=bN b text text.length/\r<G'.n/\∀ (d:Nat) (kx:Nat->KE) (rr:Nat) (e:Env),ws.length<rr->ae s004 e = .ptr r 0->ae s006 e=vo->ae s022 e = .int 7 n->ae s023 e = .int 7 pre.length->
  ∀ x:R,(∀ e',ae s004 e' = .ptr r 0->ae s006 e'=vo'->kx 1 e' G'=x)->
  jQ wL fuel (aN cp t fuel (d+3)) kx rr e G=x:=by
 intro ws
 induction ws with
 | nil=>
  intro pre G vo pos hal f hg hd hpl hr hr1 hr2 hbo
  have hal':all=pre:=by rw [hal,YR]
  rw [<- hal']at hg
  have hpe:pos=text.length:=by
   have:=congrArg Wv hd
   simp only [oz,QD,WM,YO]at this
   omega
  rw [hpe]at hr
  refine ⟨G,vo,f,hg,hr,hr2,λd kx rr e hrr h4 h6 h22 h23 x hT=>?_⟩
  obtain ⟨rr,rfl⟩:∃ q,rr=q+1:=⟨rr-1,by simp only [YO]at hrr;omega⟩
  have hi:pre.length=n:=by rw [hn,hal']
  have e1:(dA (.lt 0 18446744073709551616) n n=true)=False:=by rw [AL (by omega) (by omega)];exact propext ⟨λh=>by omega,False.elim⟩
  rw [ak]
  rw [hi]at h23
  simp only [go_sem,wL,h22,h23,e1]
  exact hT _ h4 h6
 | cons w ws ih=>
  intro pre G vo pos hal f hg hd hpl hr hr1 hr2 hbo
  have hw:=f.wf
  obtain ⟨hw1,hw2,hw3⟩:=hall w (by rw [hal];simp)
  have hlt:pre.length<n:=by rw [hn,hal];simp only [YC,YH];omega
  have e1:(dA (.lt 0 18446744073709551616) pre.length n=true)=True:=by rw [AL (by omega) (by omega)];exact eq_true hlt
  have e2:(dA (.gt 0 18446744073709551616) w.1 1024=true)=False:=by rw [nU (by omega) (by omega)];exact propext ⟨λh=>by omega,False.elim⟩
  have e3:w.1%18446744073709551616=w.1:=by omega
  have e9:(pre.length+1)%18446744073709551616=pre.length+1:=by omega
  have hbr:b≠r:=by omega
  have hbG:=(f.same b hbn).trans hb0
  have hd1:text.drop pos=bE w.1 ++ (bE (IP w).length ++ (IP w ++ oz ws)):=by
   rw [hd,kY]
   simp only [oz,Wb,zJ,WA]
  have h1:∀ {d} {k},aj (aN cp t fuel (d+2)) (.func 246 []) [.ptr r 0] G k=k (.int 7 w.1) (G.put r (bN b text (pos+(bE w.1).length))):=λ{d k}=>kQ T hw hr hr2 hbG hbr hlen (by omega) hd1 hfu
  have hd2:=j8 hd1
  generalize hp2:pos+(bE w.1).length=pos2 at h1 hd2
  have hd3:=by
   rw [<- WA]at hd2
   exact j8 hd2
  have h2:∀ {d} {k},aj (aN cp t fuel (d+3)) (.func 374 []) [.ptr r 0] (G.put r (bN b text pos2)) k=k (.str w.2.1 w.2.2) (G.put r (bN b text (pos2+(bE (IP w).length ++ IP w).length))):=λ{d k}=>by
   rw [<- TZ hw3,OB T (by rw [Heap.bF];exact hw) (by rw [Heap.aE hw hr2,if_pos rfl]) (by rw [Heap.aR];exact hr2) (by rw [Heap.aE hw hr2,if_neg hbr];exact hbG) hbr hlen hd2 hfu,Heap.iU]
  have hpl3:pos2+(bE (IP w).length ++ IP w).length<=text.length:=by
   have:=congrArg Wv hd2
   simp only [WM,YC]at this ⊢
   have hp1:1<=(bE (IP w).length).length:=by simp [bE]
   omega
  generalize pos2+(bE (IP w).length ++ IP w).length=pos3 at h2 hd3 hpl3
  have fG3:af H (G.put r (bN b text pos3)):=af.put f hr1 hr2
  have g3w:=fG3.wf
  have g3n:(G.put r (bN b text pos3)).n=G.n:=Heap.aR
  have g3r:(G.put r (bN b text pos3)).get r=bN b text pos3:=by rw [Heap.aE hw hr2,if_pos rfl]
  have e20:2<=2:=YB _
  have e21:=by omega
  rcases hg with ⟨rfl,ho⟩|⟨bo,rfl,ho,hbo2,hbo3,hbo4⟩
  .subst ho
   generalize hG3:G.put r (bN b text pos3)=G3 at h2 fG3 g3w g3n g3r
   have f2:af H ((G3.new (.cells [.int 3 w.1,.str w.2.1 w.2.2])).new (.cells [.int 3 w.1,.str w.2.1 w.2.2])):=(fG3.trans (af.new g3w)).trans (af.new (by rw [Heap.aX];exact g3w))
   have gn:((G3.new (.cells [.int 3 w.1,.str w.2.1 w.2.2])).new (.cells [.int 3 w.1,.str w.2.1 w.2.2])).n=G.n+1+1:=by simp only [Heap.aM,g3n]
   obtain ⟨G',vo',f',hg',hr',hr2',hG'⟩:=ih [w] _ (.slice (G.n+1) 0 1 0 2) pos3 (by rw [hal];simp) f2 (by
    refine YE ⟨G.n+1,rfl,by simp,?_,by have:=f.n;omega,by rw [gn];omega⟩
    rw [Heap.aD (by rw [Heap.aX];exact g3w),if_pos (by rw [Heap.aM,g3n])]
    rfl) hd3 hpl3 (by rw [Heap.aD (by rw [Heap.aX];exact g3w),if_neg (by rw [Heap.aM,g3n];omega),Heap.aD g3w,if_neg (by rw [g3n];omega)];exact g3r) hr1 (by rw [gn];omega) (λbo l c s z he=>by cases he;omega)
   refine ⟨G',vo',f',hg',hr',hr2',λd kx rr e hrr h4 h6 h22 h23 x hT=>?_⟩
   obtain ⟨rr,rfl⟩:∃ q,rr=q+1:=⟨rr-1,by omega⟩
   have h1':=λ{k}=>h1 (d:=d+1) (k:=k)
   rw [ak]
   simp only [YO,WJ]at h23 e1 e9
   simp only [go_sem,↓cW,wL,h4,h6,h22,h23,e1,e2,e3,h1',h2,g3w,g3n,e20]
   refine hG' d kx rr _ (by simp only [YH]at hrr;omega) ?_ ?_ ?_ ?_ x hT<;>simp only [go_sem,h4,h22]
  .have hrb:¬ bo=r:=λh=>hbo bo _ _ _ _ rfl h.symm
   have g3o:(G.put r (bN b text pos3)).get bo = .cells (bC pre):=by rw [Heap.aE hw hr2,if_neg hrb];exact hbo2
   generalize hG3:G.put r (bN b text pos3)=G3 at h2 fG3 g3w g3n g3r g3o
   have e4:¬ bo=G.n:=by omega
   have e5:bo<G.n+1:=by omega
   have e6:pre.length+1<=1073741824:=by omega
   have e7:=dh pre
   have w1:((G3.new (.cells [.int 3 w.1,.str w.2.1 w.2.2])).put bo .dead).wf:=by simp only [Heap.bF,Heap.aX,g3w]
   have n1:((G3.new (.cells [.int 3 w.1,.str w.2.1 w.2.2])).put bo .dead).n=G.n+1:=by simp only [Heap.aM,Heap.aR,g3n]
   have f2:af H (((G3.new (.cells [.int 3 w.1,.str w.2.1 w.2.2])).put bo .dead).new (.cells (bC pre ++ [.int 3 w.1,.str w.2.1 w.2.2]))):=(af.put (fG3.trans (af.new g3w)) hbo3 (by rw [Heap.aM,g3n];omega)).trans (af.new w1)
   have gn:(((G3.new (.cells [.int 3 w.1,.str w.2.1 w.2.2])).put bo .dead).new (.cells (bC pre ++ [.int 3 w.1,.str w.2.1 w.2.2]))).n=G.n+1+1:=by rw [Heap.aM,n1]
   obtain ⟨G',vo',f',hg',hr',hr2',hG'⟩:=ih (pre ++ [w]) _ (.slice (G.n+1) 0 (pre.length+1) 0 2) pos3 (by rw [hal];simp) f2 (by
    refine YE ⟨G.n+1,by simp,by simp,?_,by omega,by omega⟩
    rw [Heap.aD w1,if_pos n1.symm,er]
    rfl) hd3 hpl3 (by rw [Heap.aD w1,if_neg (by omega),Heap.aE (by rw [Heap.aX];exact g3w) (by rw [Heap.aM,g3n];omega),if_neg (λh=>hrb h.symm),Heap.aD g3w,if_neg (by omega)];exact g3r) hr1 (by omega) (λbo l c s z he=>by cases he;omega)
   refine ⟨G',vo',f',hg',hr',hr2',λd kx rr e hrr h4 h6 h22 h23 x hT=>?_⟩
   obtain ⟨rr,rfl⟩:∃ q,rr=q+1:=⟨rr-1,by omega⟩
   have h1':=λ{k}=>h1 (d:=d+1) (k:=k)
   rw [ak]
   simp only [go_sem,↓cW,wL,h4,h6,h22,h23,e1,e2,e3,e9,h1',h2,g3w,g3n,g3o,e20,e4,e5,e6,e7]
   refine hG' d kx rr _ (by simp only [YH]at hrr;omega) ?_ ?_ ?_ ?_ x hT<;>simp only [go_sem,h4,h22,YC]
theorem Co (T:aA t) {ws} (hw:H.wf) (hr:rR ws) (h0:ws≠[]) (hat:∀ w ∈ ws,w.1<=1024) (hfu:100<fuel):
 ∃ H' vo,(∀ (d) (k),aj (aN cp t fuel (d+4)) (.func 240 []) [tv (dD ws)] H k=k (.cH [vo,.bool true]) H')/\af H H'/\zP H H' vo ws:=by
 have htl:=hr.text
 have hnum:=hr.num
 have hn0:=List.length_pos_iff.2 h0
 have hnr:∀ {d} {k},aj (aN cp t fuel (d+1)) (.func 242 []) [tv (dD ws)] H k=k (.ptr (H.n+1) 0) ((H.new (.bytes (dD ws).length (enc (dD ws)))).new (bN H.n (dD ws) 0)):=λ{d k}=>kP T hw (by omega)
 have hd1:(dD ws).drop 0=bE ws.length ++ oz ws:=rfl
 have hd2:=j8 hd1
 have hpl:0+(bE ws.length).length<=(dD ws).length:=by simp only [dD,YC];omega
 generalize dD ws=text at htl hnr hd1 hd2 hpl ⊢
 have hw1:(H.new (.bytes text.length (enc text))).wf:=by rw [Heap.aX];omega
 have fb:af H (H.new (.bytes text.length (enc text))):=af.new hw
 have hbn:(H.new (.bytes text.length (enc text))).n=H.n+1:=Heap.aM
 have hbb:(H.new (.bytes text.length (enc text))).get H.n = .bytes text.length (enc text):=by rw [Heap.aD hw,if_pos rfl]
 generalize H.new (.bytes text.length (enc text))=Hb at hnr hw1 fb hbn hbb
 have fG:af Hb (Hb.new (bN H.n text 0)):=af.new hw1
 have gr:(Hb.new (bN H.n text 0)).get (H.n+1)=bN H.n text 0:=by rw [Heap.aD hw1,if_pos hbn.symm]
 have gb:(Hb.new (bN H.n text 0)).get H.n = .bytes text.length (enc text):=by rw [Heap.aD hw1,if_neg (by omega)];omega
 have gn:(Hb.new (bN H.n text 0)).n=H.n+1+1:=by rw [Heap.aM,hbn]
 generalize Hb.new (bN H.n text 0)=G at hnr fG gr gb gn
 have gw:=fG.wf
 have hrn:H.n+1<G.n:=by omega
 have hne:H.n≠H.n+1:=by omega
 have hn1:∀ {d} {k},aj (aN cp t fuel (d+2)) (.func 246 []) [.ptr (H.n+1) 0] G k=k (.int 7 ws.length) (G.put (H.n+1) (bN H.n text (0+(bE ws.length).length))):=λ{d k}=>kQ T gw gr hrn gb hne (by omega) (by omega) hd1 (by omega)
 generalize 0+(bE ws.length).length=pos at hn1 hd2 hpl
 have fG2:af Hb (G.put (H.n+1) (bN H.n text pos)):=af.put fG (by omega) hrn
 obtain ⟨G',vo',f',hg',hr',hr2',hL⟩:=Cp (fuel:=fuel) T (by omega) (by omega) rfl (by omega) hbb (by omega) (λw hw=>⟨hat w hw,by have:=hr.len w hw;omega,hr.ok w hw⟩) ws [] (G.put (H.n+1) (bN H.n text pos)) .az pos rfl fG2 (YG ⟨rfl,rfl⟩) hd2 hpl (by rw [Heap.aE gw hrn,if_pos rfl]) (by omega) (by rw [Heap.aR];omega) (λbo l c s z he=>by cases he)
 have he:∀ {d} {k},aj (aN cp t fuel (d+2)) (.func 376 []) [.ptr (H.n+1) 0] G' k=k (.bool true) G':=λ{d k}=>Rx T hr'
 refine ⟨G',vo',λd k=>?_,fb.trans f',?_⟩
 .have e1:(dA (.lt 0 18446744073709551616) ws.length 1=true)=False:=by rw [AL (by omega) (by omega)];exact propext ⟨λh=>by omega,False.elim⟩
  have e2:(dA (.gt 0 18446744073709551616) ws.length 60=true)=False:=by rw [nU (by omega) (by omega)];exact propext ⟨λh=>by omega,False.elim⟩
  rw [ax T.adJ rfl rfl]
  simp only [go_sem,acf,hnr,hn1,e1,e2]
  refine hL d _ fuel _ (by omega) ?_ ?_ ?_ ?_ _ (λe' g4 g6=>?_)
  .rfl
  .rfl
  .rfl
  .rfl
  .simp only [go_sem,g4,g6,he]
 .rcases hg' with h|⟨bo,q1,q2,q3,q4,q5⟩
  .exact YG h
  .exact YE ⟨bo,q1,q2,q3,by omega,q5⟩
end
end Go.Ev
end
section
namespace Go.Ev
theorem abu {a b} (h:tv a=tv b):a=b:=by
 simp only [tv,V.str.injEq]at h
 rw [<- fN a,<- fN b,h.1,h.2]
theorem yb:∀ {a b:List (List UInt8)},a.map tv=b.map tv->a=b
 | [],[],_=>rfl
 | [],_ :: _,h=>by cases h
 | _ :: _,[],h=>by cases h
 | x :: a,y :: b,h=>by
  simp only [YP,List.cons.injEq]at h
  rw [abu h.1,yb h.2]
def OE:Option (List UInt8)->V
 | some t=>.cH [tv t,.int 3 0]
 | none=>.cH [.str 0 0,.int 3 4]
open Classical in
noncomputable def ev (unpk:List (List UInt8)->Option (List UInt8)) (args:List V) (H:Heap) (k:K):R:=
 match args with
 | [.slice b 0 n _ _]=>if h:∃ ls:List (List UInt8),H.get b = .cells (ls.map tv)/\ls.length=n/\n<=1000/\(∀ x ∈ ls,x.length<=1000) then k (OE (unpk h.choose)) H else no 0
 | _=>no 0
open Classical in
theorem uL {unpk} {b n c s} {H} {k} {ls} (hb:H.get b = .cells (ls.map tv)) (hn:ls.length=n) (h1:n<=1000) (h2:∀ x ∈ ls,x.length<=1000):
 ev unpk [.slice b 0 n c s] H k=k (OE (unpk ls)) H:=by
 have hex:∃ ls:List (List UInt8),H.get b = .cells (ls.map tv)/\ls.length=n/\n<=1000/\(∀ x ∈ ls,x.length<=1000):=⟨ls,hb,hn,h1,h2⟩
 have hs:=hex.choose_spec
 have he:=by
  have:=hs.1.symm.trans hb
  simp only [eK.cells.injEq]at this
  exact yb this
 show (if h:_ then _ else _)=_
 rw [dif_pos hex,he]
theorem J8 {unpk} {b n c s} {H} {k} {ls} {t} (hb:H.get b = .cells (ls.map tv)) (hn:ls.length=n) (h1:n<=1000) (h2:∀ x ∈ ls,x.length<=1000) (hu:unpk ls=some t):
 ev unpk [.slice b 0 n c s] H k=k (.cH [tv t,.int 3 0]) H:=by
 rw [uL hb hn h1 h2,hu]
 rfl
def OT (H G:Heap) (v:V) (ss:List Tx):Prop:=(v = .az/\ss=[])\/∃ b,v = .slice b 0 ss.length 0 1/\ss≠[]/\G.get b = .cells (ss.map sv)/\H.n<=b/\b<G.n
section
variable {cp:RC->ah} {t:Nat->Option cP} {fuel:Nat} {H:Heap}
theorem FT (T:aA t) (hc:aY t) {p:Nat} {A:AD} {O:Nat->Prop} (hD:cN H p A O) (ho:A.off=false) (hl:145<A.len) (hl2:A.len<=1024) (he:A.es.length<100000) (hu:A.us.length<50000) (hroom:(find A.es 0).isSome=true\/A.es.length<A.room) (hfu:10<fuel):
 ∃ H' O',(∀ (d:Nat) (k:K),aj (aN cp t fuel (d+7)) (.func 76 []) [.ptr p 0] H k=k (.int 3 (A.runs [[(0,tx (fX 0 0))]]).2) H')/\Step H O H' O'/\cN H' p (A.runs [[(0,tx (fX 0 0))]]).1 O':=by
 have hw:=hD.wf
 have hr:∀ {d} {k},aj (aN cp t fuel (d+3)) (.func 194 []) [.ptr p 0] H k=k (.int 3 0) H:=λ{d k}=>by
  rw [nH T hc hD,ho]
  rfl
 have hL:∀ {d} {k},aj (aN cp t fuel (d+1)) (.func 74 []) [.ptr p 0] H k=k (.int 3 A.len) H:=λ{d k}=>sH (T.jh hc) hD
 obtain ⟨H8,hh8,f8⟩:=py (cp:=cp) (fuel:=fuel) T (a:=0) (n:=0) hw (by omega) (by omega) (by omega)
 have hw8:=f8.wf
 have hhl:=nA 0 0
 rw [show tv (fX 0 0) = .str 32 (enc (fX 0 0)) by rfl]at hh8
 have f89:af H8 (H8.new (.cells [.int 3 0,.str 32 (enc (fX 0 0))])):=af.new hw8
 have h9b:(H8.new (.cells [.int 3 0,.str 32 (enc (fX 0 0))])).get H8.n = .cells [.int 3 0,.str 32 (enc (fX 0 0))]:=by rw [Heap.aD hw8,if_pos rfl]
 have h9n:(H8.new (.cells [.int 3 0,.str 32 (enc (fX 0 0))])).n=H8.n+1:=Heap.aM
 generalize hH9:H8.new (.cells [.int 3 0,.str 32 (enc (fX 0 0))])=H9 at f89 h9b h9n
 have f9:=f8.trans f89
 have hhd:mU H9 (.slice H8.n 0 1 2 0) [(0,tx (fX 0 0))] O:=YE ⟨H8.n,2,0,rfl,by rw [h9b];rfl,by omega,λh=>by have:=hD.lt _ h;have:=f8.n;omega⟩
 obtain ⟨H10,F2,ha10,f910,hA2⟩:=oI (cp:=cp) (fuel:=fuel) T (p:=p) f9.wf (λx hx=>YD (hD.lt x hx) f9.n) hhd
 have f10:=f9.trans f910
 have hw10:=f10.wf
 have f11:af H10 (H10.new (.cells [F2])):=af.new hw10
 have hA2':=hA2.cG f11.step
 have f12:=f10.trans f11
 obtain ⟨H',O',g1,g2,g3⟩:=yD (cp:=cp) (c:=2) (s:=0) (fs:=[(F2,[(0,tx (fX 0 0))])]) T hc (hD.fresh f12) (by
  refine ⟨ho,λus hus=>?_,?_,λus hus w hw=>?_,?_⟩
  .simp only [YP,Yc,Yb,Wa,or_false]at hus
   subst hus
   simp only [YH,YO];omega
  .simp only [YP,Yc,WU,YC2,YC,YH,YO]
   omega
  .simp only [YP,Yc,Yb,Wa,or_false]at hus
   subst hus
   rw [YU.1 hw];exact ⟨by omega,hhl⟩
  .exact ⟨hroom,trivial⟩) (λf hf=>by
  simp only [Yb,Wa,or_false]at hf
  subst hf
  exact ⟨hA2',by simp,by show 1<fuel;omega⟩) (by rw [Heap.aD hw10,if_pos rfl];rfl) (by rw [Heap.aM];omega) (λh=>by have:=hD.lt _ h;have:=f10.n;omega) (by simp) (by simp only [YH,YO];omega)
 obtain ⟨B20,B21,B22,v2,rfl,_⟩:=hA2
 have n145:nn 145:=by unfold nn;omega
 have nl:nn A.len:=by unfold nn;omega
 have e1:¬ A.len<=145:=by omega
 refine ⟨H',O',λd k=>?_,f12.step.trans g2,g3⟩
 have hh8':=λ{d} {k}=>hh8 (d+3) k
 have ha10':=λ{d} {k}=>ha10 (d+5) k
 have g1':=λ{d} {k}=>g1 (d+1) k
 simp only [YP,Yc,YH,YO]at g1'
 rw [ax T.k38 rfl rfl]
 simp only [go_sem,c38,hr,hL,n145,nl,e1,hh8',hw8,hH9,ha10',hw10,g1']
set_option maxRecDepth 4000 in
theorem CT (T:aA t) (hc:aY t) {p a n:Nat} {A:AD} {O:Nat->Prop} (hD:cN H p A O) (ho:A.off=false) (hl:145<=A.len) (ha:a<2) (hn:n<=72):
 ∀ (m i:Nat) (G:Heap) (vo:V),i+m=n->af H G->OT H G vo ((WX i).map λj=>A.read (1+a*72+j))->
 ∃ G' vo',af H G'/\OT H G' vo' ((WX n).map λj=>A.read (1+a*72+j))/\∀ (d:Nat) (kx:Nat->KE) (rr:Nat) (e:Env),m<rr->ae s000 e = .ptr p 0->ae s004 e = .int 3 a->ae s007 e=vo->ae s040 e = .int 3 n->ae s041 e = .int 3 i->
  ∀ x:R,(∀ e',ae s000 e' = .ptr p 0->ae s007 e'=vo'->kx 1 e' G'=x)->
  jQ Em fuel (aN cp t fuel (d+3)) kx rr e G=x:=by
 intro m
 induction m with
 | zero=>
  intro i G vo hi f hg
  have hi':i=n:=by omega
  subst hi'
  refine ⟨G,vo,f,hg,λd kx rr e hrr h0 h4 h7 h40 h41 x hT=>?_⟩
  obtain ⟨rr,rfl⟩:∃ q,rr=q+1:=⟨rr-1,by omega⟩
  have e1:¬ i<i:=by omega
  have e2:nn i:=by unfold nn;omega
  rw [ak]
  simp only [go_sem,Em,h40,h41,e1,e2]
  exact hT _ h0 h7
 | succ m ih=>
  intro i G vo hi f hg
  have hlt:i<n:=by omega
  have e1:nn i:=by unfold nn;omega
  have e2:nn n:=by unfold nn;omega
  have e9:(i+1)%18446744073709551616=i+1:=by omega
  have hat:∀ {d} {k} {G},aj (aN cp t fuel (d+1)) (.func 236 []) [.int 3 a,.int 3 i] G k=k (.int 3 (1+a*72+i)) G:=λ{d k G}=>Eb T ha (by omega)
  obtain ⟨G2,hr2,f2⟩:=pQ (cp:=cp) (fuel:=fuel) (T.jh hc) (hD.fresh f) ho (a:=1+a*72+i) (by omega)
  have fG2:=f.trans f2
  have gw:=fG2.wf
  have hrs:(WX (i+1)).map (λj=>A.read (1+a*72+j))=(WX i).map (λj=>A.read (1+a*72+j)) ++ [A.read (1+a*72+i)]:=by rw [List.range_succ,WB];rfl
  have hrl:((WX i).map λj=>A.read (1+a*72+j)).length=i:=by simp
  have e21:=by omega
  generalize hgn:(WX i).map (λj=>A.read (1+a*72+j))=ss at hg hrs hrl
  generalize A.read (1+a*72+i)=q at hr2 hrs
  obtain ⟨ql,qn⟩:=q
  simp only [sv]at hr2
  rcases hg with ⟨rfl,hs0⟩|⟨bo,rfl,hs0,hbo2,hbo3,hbo4⟩
  .subst hs0
   have hi0:i=0:=by rw [<- hrl];rfl
   have f3:af H ((G2.new (.cells [.str ql qn])).new (.cells [.str ql qn])):=(fG2.trans (af.new gw)).trans (af.new (by rw [Heap.aX];exact gw))
   have gn:((G2.new (.cells [.str ql qn])).new (.cells [.str ql qn])).n=G2.n+1+1:=by simp only [Heap.aM]
   obtain ⟨G',vo',f',hg',hG'⟩:=ih (i+1) _ (.slice (G2.n+1) 0 1 0 1) (by omega) f3 (by
    rw [hrs]
    refine YE ⟨G2.n+1,rfl,by simp,?_,by have:=fG2.n;omega,by rw [gn];omega⟩
    rw [Heap.aD (by rw [Heap.aX];exact gw),if_pos (by rw [Heap.aM])]
    rfl)
   refine ⟨G',vo',f',hg',λd kx rr e hrr h0 h4 h7 h40 h41 x hT=>?_⟩
   obtain ⟨rr,rfl⟩:∃ q,rr=q+1:=⟨rr-1,by omega⟩
   rw [ak]
   simp only [go_sem,↓cW,Em,h0,h4,h7,h40,h41,hlt,e1,e2,e9,hat,hr2,gw]
   refine hG' d kx rr _ (by omega) ?_ ?_ ?_ ?_ ?_ x hT<;>simp only [go_sem,h0,h4,h40]
  .have hboG:=YD hbo4 f2.n
   have hbo2':=(f2.same bo hbo4).trans hbo2
   have e4:¬ bo=G2.n:=by omega
   have e5:bo<G2.n+1:=by omega
   have e6:i+1<=1073741824:=by omega
   have w1:((G2.new (.cells [.str ql qn])).put bo .dead).wf:=by simp only [Heap.bF,Heap.aX,gw]
   have n1:((G2.new (.cells [.str ql qn])).put bo .dead).n=G2.n+1:=by simp only [Heap.aM,Heap.aR]
   have f3:af H (((G2.new (.cells [.str ql qn])).put bo .dead).new (.cells (ss.map sv ++ [.str ql qn]))):=(af.put (fG2.trans (af.new gw)) hbo3 (by rw [Heap.aM];omega)).trans (af.new w1)
   have gn:(((G2.new (.cells [.str ql qn])).put bo .dead).new (.cells (ss.map sv ++ [.str ql qn]))).n=G2.n+1+1:=by rw [Heap.aM,n1]
   obtain ⟨G',vo',f',hg',hG'⟩:=ih (i+1) _ (.slice (G2.n+1) 0 (i+1) 0 1) (by omega) f3 (by
    rw [hrs]
    refine YE ⟨G2.n+1,by simp [hrl],by simp,?_,by omega,by omega⟩
    rw [Heap.aD w1,if_pos n1.symm,WB]
    rfl)
   refine ⟨G',vo',f',hg',λd kx rr e hrr h0 h4 h7 h40 h41 x hT=>?_⟩
   obtain ⟨rr,rfl⟩:∃ q,rr=q+1:=⟨rr-1,by omega⟩
   rw [ak]
   simp only [go_sem,↓cW,Em,h0,h4,h7,h40,h41,hlt,e1,e2,e9,hat,hr2,gw,e4,e5,e6,hrl,hbo2']
   refine hG' d kx rr _ (by omega) ?_ ?_ ?_ ?_ ?_ x hT<;>simp only [go_sem,h0,h4,h40]
end
end Go.Ev
end
section
namespace Go.Ev
def AD.recover (A:AD) (n:Nat) (ws:List Wr):AD × Nat:=if A.off=true then (A,6) else if n=0 then (A,0) else A.runs [ws]
structure qW (A:AD) (pk:List UInt8->List (List UInt8)) (a n:Nat) (ws:List Wr):Prop where
 can:qb A a n
 record:n≠0->n=(pk (dD ws)).length/\(∀ i (h:i<(pk (dD ws)).length),A.read (1+a*72+i)=tx (pk (dD ws))[i])/\rR ws/\ws≠[]/\iq A.len [] ws=true/\roomy A.room A.es ws
section
variable {cp:RC->ah} {t:Nat->Option cP} {fuel:Nat} {H:Heap}
theorem CR (T:aA t) (hc:aY t) {pk:List UInt8->List (List UInt8)} {unpk:List (List UInt8)->Option (List UInt8)} (F:cD pk unpk) (hu:t 119=some (.nat (ev unpk)))
 {p a n:Nat} {A:AD} {O:Nat->Prop} {ws:List Wr} (hD:cN H p A O) (C:qW A pk a n ws) (hfu:10000<fuel):
 ∃ H' O',(∀ (d:Nat) (k:K),aj (aN cp t fuel (d+7)) (.func 88 []) [.ptr p 0] H k=k (.int 3 (A.recover n ws).2) H')/\Step H O H' O'/\cN H' p (A.recover n ws).1 O':=by
 have hw:=hD.wf
 have hr:∀ {d} {k},aj (aN cp t fuel (d+3)) (.func 194 []) [.ptr p 0] H k=k (.int 3 (if A.off=true then 6 else 0)) H:=λ{d k}=>nH T hc hD
 by_cases ho:A.off=true
 .refine ⟨H,O,λd k=>?_,Step.refl hw,?_⟩
  .rw [if_pos ho]at hr
   rw [ax T.k44 rfl rfl]
   simp only [go_sem,c44,hr,AD.recover,ho]
  .simp only [AD.recover,if_pos ho];exact hD
 rw [if_neg ho]at hr
 have ho':A.off=false:=by
  cases h:A.off with
  | true=>exact absurd h ho
  | false=>rfl
 obtain ⟨⟨k1,k2,k3,k4,k5,k6,k7⟩,k8⟩:=C
 obtain ⟨H2,hh2,f2⟩:=Ax (cp:=cp) (fuel:=fuel) T hc hD ho' (by omega) k5 k6 k7 (by omega)
 have hh2':=λ{d} {k}=>hh2 (d+1) k
 by_cases h0:n=0
 .refine ⟨H2,O,λd k=>?_,f2.step,?_⟩
  .have n0:nn n:=by unfold nn;omega
   rw [ax T.k44 rfl rfl]
   simp only [go_sem,c44,hr,hh2',AD.recover,ho,h0]
  .simp only [AD.recover,if_neg ho,if_pos h0];exact hD.fresh f2
 obtain ⟨j1,j2,j3,j4,j5,j6⟩:=k8 h0
 have hrc:A.recover n ws=A.runs [ws]:=by simp only [AD.recover,if_neg ho,if_neg h0]
 rw [hrc]
 have htl:=j3.text
 have hnum:=j3.num
 obtain ⟨hgood,_⟩:=iM j5
 have hback:=F.back (dD ws) (by omega)
 have hpkl:=F.len (dD ws) (by omega)
 obtain ⟨H3,vo,f3,g3,hL⟩:=CT T hc (hD.fresh f2) ho' k1 k6 k7 n 0 H2 .az (by omega) (af.refl f2.wf) (YG ⟨rfl,rfl⟩)
 have f23:=f2.trans f3
 have hread:(WX n).map (λj=>A.read (1+a*72+j))=(pk (dD ws)).map tx:=by
  refine List.ext_getElem (by simp [j1]) λi h1 h2=>?_
  simp only [List.getElem_map,List.getElem_range]
  exact j2 i (by simpa using h2)
 rw [hread]at g3
 obtain ⟨b,rfl,hb2,hb3,hb4⟩:∃ b,vo = .slice b 0 n 0 1/\H3.get b = .cells ((pk (dD ws)).map tv)/\H2.n<=b/\b<H3.n:=by
  rcases g3 with ⟨_,h⟩|⟨b,q1,q2,q3,q4,q5⟩
  .have:=congrArg Wv h
   simp only [Ys,YO]at this
   omega
  .refine ⟨b,by rw [q1,Ys,<- j1],?_,q4,q5⟩
   rw [q3,List.map_map]
   rfl
 have hun:∀ {d} {k},aj (aN cp t fuel (d+1)) (.func 238 []) [.slice b 0 n 0 1] H3 k=k (.cH [tv (dD ws),.int 3 0]) H3:=λ{d k}=>by
  rw [oO hu rfl rfl]
  exact J8 hb2 j1.symm (by omega) (λx hx=>by have:=hpkl x hx;omega) hback
 obtain ⟨H4,vw,hjw,f4,g4⟩:=Co (cp:=cp) (fuel:=fuel) T f3.wf j3 j4 (λw hw=>by have:=(hgood w hw).1.2.1;omega) (by omega)
 have f24:=f23.trans f4
 have hWs:mU H4 vw ws O:=by
  rcases g4 with ⟨_,h⟩|⟨bo,q1,q2,q3,q4,q5⟩
  .exact absurd h j4
  .exact YE ⟨bo,_,_,q1,q3,q5,λh=>by have:=hD.lt _ h;have:=f23.n;omega⟩
 obtain ⟨H5,hm5,f5⟩:=yc (cp:=cp) (fuel:=fuel) T hc (hD.fresh f24) (by unfold nn;omega) hWs (λw hw=>by have:=(hgood w hw).1.2;omega) (by omega) (by omega)
 rw [j5]at hm5
 have f25:=f24.trans f5
 obtain ⟨H6,F1,ha6,f6,hA⟩:=oI (cp:=cp) (fuel:=fuel) T (p:=p) f5.wf (λx hx=>YD (hD.lt x hx) f25.n) (hWs.fresh f5)
 have f26:=f25.trans f6
 have hw6:=f6.wf
 have f67:af H6 (H6.new (.cells [F1])):=af.new hw6
 have hA':=hA.cG f67.step
 have f27:=f26.trans f67
 obtain ⟨H',O',g1,g2,g3⟩:=yD (cp:=cp) (c:=2) (s:=0) (fs:=[(F1,ws)]) T hc (hD.fresh f27) (by
  refine ⟨ho',λus hus=>?_,?_,λus hus w hw=>?_,?_⟩
  .simp only [YP,Yc,Yb,Wa,or_false]at hus
   subst hus
   omega
  .simp only [YP,Yc,WU,YC2,YC,YO]
   omega
  .simp only [YP,Yc,Yb,Wa,or_false]at hus
   subst hus
   exact ⟨(hgood w hw).1.2.1,(hgood w hw).1.2.2⟩
  .simp only [YP,Yc,WU,YC2,YR]
   exact j6) (λf hf=>by
  simp only [Yb,Wa,or_false]at hf
  subst hf
  exact ⟨hA',by show ws.length<10000;omega,by show ws.length<fuel;omega⟩) (by rw [Heap.aD hw6,if_pos rfl];rfl) (by rw [Heap.aM];omega) (λh=>by have:=hD.lt _ h;have:=f26.n;omega) (by simp) (by simp only [YH,YO];omega)
 obtain ⟨B20,B21,B22,v2,rfl,_⟩:=hA
 clear hA'
 have n0:nn n:=by unfold nn;omega
 refine ⟨H',O',λd k=>?_,f27.step.trans g2,g3⟩
 have g1':=λ{d} {k}=>g1 (d+1) k
 have hjw':=λ{d} {k}=>hjw (d+2) k
 have hm5':=λ{d} {k}=>hm5 (d+4) k
 have ha6':=λ{d} {k}=>ha6 (d+5) k
 have hun':=λ{d} {k}=>hun (d:=d+5) (k:=k)
 simp only [YP,Yc,YH,YO]at g1'
 rw [ax T.k44 rfl rfl]
 simp only [go_sem,c44,hr,hh2',h0]
 refine hL _ _ fuel _ (by omega) ?_ ?_ ?_ ?_ ?_ _ (λe' q0 q7=>?_)
 .rfl
 .rfl
 .rfl
 .rfl
 .rfl
 .simp only [go_sem,q0,q7,hun',hjw',hm5',ha6',hw6,g1']
end
end Go.Ev
end

