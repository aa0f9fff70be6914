/- LB: a part of the evaluator,of its logic,or of the laws' walk in it. -/
import Derived.Test.YtalmhjlkdhlbiaaGreatDoorLA
open Nat renaming le_refl → YA,lt_of_lt_of_le → YC,mod_eq_of_lt → Yz,zero_add → WG,add_zero → WI,mul_comm → Wl,min_eq_left → QT,sub_zero → QX,shiftRight_add → YL4
open List renaming getElem?_eq_getElem → YB,length_append → YD,length_cons → YF,mem_cons_of_mem → YH,mem_cons_self → YI,length_nil → YM,nil_append → YN,mem_singleton → YO,cons_append → YP,eq_nil_of_length_eq_zero → YR,mem_cons → YT,append_nil → YW,replicate → YZ,take_of_length_le → Yc,map_cons → Yd,length_map → Yl,map_nil → WA,map_append → WB,append_assoc → WC,getElem?_drop → WE,flatten_cons → WO,flatMap_cons → WS,range → WT,length_take → WV,not_mem_nil → Wg,length_replicate → Wj,length_drop → Wn,length → Wo,flatMap_nil → Wv,foldl_cons → QU,find?_cons → Qz,flatten_nil → YC3,countP_mono_left → YI4,drop_left → YJ1
open Or renaming inr → YE,inl → YG
set_option linter.unusedVariables false
set_option linter.unusedSimpArgs false
set_option linter.unusedSectionVars false
set_option maxHeartbeats 8000000
open Nat renaming reduceAdd→ZA,reduceSub→ZB,reduceMul→ZC,reduceEqDiff→ZD,reduceLT→ZE,reduceDiv→ZF,reduceMod→ZG,reduceLeDiff→ZH
section
namespace Go.Ev
def bO (b:Nat) (all:List UInt8) (pos:Nat):ee:=.cells [.slice b pos (all.length-pos) 0 1,.bool false]
def EX (l:List UInt8):Nat:=l.foldl (λa b=>a*256+b.toNat) 0
theorem C7:∀ (m n) (s),n<256 ^ m->(be m n s).foldl (λa b=>a*256+b.toNat) 0=s.foldl (λa b=>a*256+b.toNat) n
 | 0,n,s,h=>by simp at h;subst h;rfl
 | m+1,n,s,h=>by
  simp only [be]
  split
  .simp_all
  .rw [C7 m (n/256) _ (by omega)]
   simp only [QU,toNat_ofNat (show n%256<256 by omega)]
   congr 1
   omega
theorem Xj {n} (h:n<18446744073709551616):EX (be 8 n [])=n:=by
 have h8:(256:Nat) ^ 8=18446744073709551616:=by rfl
 unfold EX
 rw [C7 8 n [] (by omega)]
 rfl
theorem C1 (l) (b):EX (l ++ [b])=EX l*256+b.toNat:=by simp only [EX,List.foldl_append,QU,List.foldl_nil]
theorem C6:∀ (l:List UInt8) (a),l.foldl (λa b=>a*256+b.toNat) a<(a+1)*256 ^ l.length
 | [],a=>by simp
 | b :: l,a=>by
  have h:=C6 l (a*256+b.toNat)
  have hb:=b.toNat_lt
  simp only [QU,YF,Nat.pow_succ]
  refine YC h ?_
  rw [Wl (256 ^ l.length),<- Nat.mul_assoc]
  exact Nat.mul_le_mul_right _ (by omega)
theorem Xk (l):EX l<256 ^ l.length:=by
 have:=C6 l 0
 simpa [EX] using this
theorem Iq:∀ (m n) (s r) (d),n≠0->n<256 ^ m->be m n s=d :: r->d≠0
 | 0,n,s,r,d,h,h1,_=>by omega
 | m+1,n,s,r,d,h,h1,h2=>by
  simp only [be,if_neg h]at h2
  by_cases h3:n/256=0
  .have h4:be m (n/256) (UInt8.ofNat (n%256):: s)=UInt8.ofNat (n%256):: s:=by
    cases m with
    | zero=>rfl
    | succ m=>simp only [be,if_pos h3]
   rw [h4]at h2
   simp only [List.cons.injEq]at h2
   rw [<- h2.1]
   intro h5
   have:=congrArg UInt8.toNat h5
   rw [toNat_ofNat (by omega)]at this
   have h6:(0:UInt8).toNat=0:=rfl
   omega
  .exact Iq m (n/256) _ r d h3 (by omega) h2
theorem AL:∀ (l) (i) (h),enc l >>> (8*i) &&& 255=l[i].toNat
 | x :: l,0,_=>by
  simp only [enc]
  have h:=Nat.and_two_pow_sub_one_eq_mod (x.toNat+256*enc l) 8
  simp_all
 | x :: l,i+1,h=>by
  have hx:=x.toNat_lt
  have h1:enc (x :: l) >>> (8*(i+1))=enc l >>> (8*i):=by
   rw [show 8*(i+1)=8+8*i by omega,YL4]
   congr 1
   simp only [enc]
   omega
  rw [h1,AL l i (by simp_all)]
  simp
section
variable {cp:RC->aq} {t:Nat->Option cW} {fuel:Nat} {H:Heap}
set_option maxRecDepth 4000 in
theorem tK (T:aJ t) {d r b pos n} {k} {all} (hw:H.wf) (hr:H.get r=bO b all pos) (hrn:r<H.n) (hlen:all.length<1000000) (hn:pos+n<=all.length):
 aj (aQ cp t fuel (d+1)) (.func 274 []) [.ptr r 0,.int 7 n] H k=k (.slice b pos n (n+1) 0) (H.put r (bO b all (pos+n))):=by
 have e1:all.length-pos<9223372036854775808:=by omega
 have e2:(all.length-pos)%18446744073709551616=all.length-pos:=by omega
 have e3:(dN (.gt 0 18446744073709551616) n (all.length-pos)=true)=False:=by rw [mW (by omega) (by omega)];exact propext ⟨λh=>by omega,False.elim⟩
 have e4:n<9223372036854775808:=by omega
 have e5:n<=all.length-pos:=by omega
 have e6:all.length-pos-n=all.length-(pos+n):=by omega
 unfold bO at hr ⊢
 rw [aB T.abf rfl rfl]
 by_cases hz:n=0
 .subst hz
  simp only [go_sem,VY,hr,hw,hrn,e1,e2,e3,e4,e5,e6,QX]
 .simp only [go_sem,VY,hr,hw,hrn,e1,e2,e3,e4,e5,e6,hz,QX]
theorem OL (T:aJ t) {b c z p} {all s} {G} (hb:G.get b = .bytes all.length (enc all)) (hs:∀ j (h),∃ h':p+j<all.length,all[p+j]=s[j]) (hq:s.length<=8):
 ∀ (m i),i+m=s.length->∀ (d) (kx) (r) (e) (v0 v3 v4:V),m<r->aa s000 e=v0->aa s006 e=v3->aa s005 e = .int 7 (EX (s.take i))->aa s035 e = .slice b p s.length c z->aa s036 e = .int 3 s.length->aa s037 e = .int 3 i->
  ∀ x:R,(∀ e',aa s000 e'=v0->aa s006 e'=v3->aa s005 e' = .int 7 (EX s)->kx 1 e' G=x)->
  lr ID fuel (aQ cp t fuel d) kx r e G=x:=by
 intro m
 induction m with
 | zero=>
  intro i hi d kx r e v0 v3 v4 hr h0 h6 h5 h35 h36 h37 x hT
  obtain ⟨r,rfl⟩:∃ q,r=q+1:=⟨r-1,by omega⟩
  have hi':i=s.length:=by omega
  subst hi'
  have e1:¬ s.length<s.length:=by omega
  have e2:nn s.length:=by unfold nn;omega
  rw [ax]
  simp only [go_sem,ID,h36,h37,e1,e2]
  rw [List.take_length]at h5
  exact hT _ h0 h6 h5
 | succ m ih=>
  intro i hi d kx r e v0 v3 v4 hr h0 h6 h5 h35 h36 h37 x hT
  obtain ⟨r,rfl⟩:∃ q,r=q+1:=⟨r-1,by omega⟩
  have hlt:i<s.length:=by omega
  obtain ⟨hp,hv⟩:=hs i hlt
  have e1:nn i:=by unfold nn;omega
  have e2:nn s.length:=by unfold nn;omega
  have e3:i<9223372036854775808:=by omega
  have e4:enc all >>> (8*(p+i)) &&& 255=s[i].toNat:=by rw [AL all _ hp,hv]
  have hbt:=(s[i]).toNat_lt
  have e5:s[i].toNat%18446744073709551616=s[i].toNat:=by omega
  have e9:(i+1)%18446744073709551616=i+1:=by omega
  have htk:s.take (i+1)=s.take i ++ [s[i]]:=by rw [List.take_add_one,YB hlt];rfl
  have hlt2:EX (s.take (i+1))<18446744073709551616:=by
   have h1:=Xk (s.take (i+1))
   have h2:(256:Nat) ^ (s.take (i+1)).length<=256 ^ 8:=Nat.pow_le_pow_right (by omega) (by rw [WV];omega)
   omega
  rw [htk,C1]at hlt2
  have e6:(EX (s.take i) <<< 8)%18446744073709551616 ||| s[i].toNat=EX (s.take (i+1)):=by
   have q1:EX (s.take i) <<< 8=EX (s.take i)*256:=Nat.shiftLeft_eq _ _
   have q2:=Yz (Nat.lt_of_le_of_lt (Nat.le_add_right _ _) hlt2)
   have q3:EX (s.take i) <<< 8+s[i].toNat=EX (s.take i) <<< 8 ||| s[i].toNat:=Nat.shiftLeft_add_eq_or_of_lt (show s[i].toNat<2 ^ 8 from hbt) _
   rw [q1,q2,htk,C1,<- q1]
   omega
  rw [ax]
  simp only [go_sem,ID,h5,h35,h36,h37,hlt,e1,e2,e3,e4,e5,e6,e9,hb,hp]
  refine ih (i+1) (by omega) d kx r _ v0 v3 v4 (by omega) ?_ ?_ ?_ ?_ ?_ ?_ x hT<;>simp only [go_sem,h0,h6,h35,h36]
set_option maxRecDepth 4000 in
theorem kg (T:aJ t) {d r b pos n:Nat} {k:K} {all rest:List UInt8} (hw:H.wf) (hr:H.get r=bO b all pos) (hrn:r<H.n) (hb:H.get b = .bytes all.length (enc all)) (hbr:b≠r) (hlen:all.length<1000000) (hn:n<18446744073709551616) (hd:all.drop pos=bE n ++ rest) (hfu:8<fuel):
 aj (aQ cp t fuel (d+2)) (.func 192 []) [.ptr r 0] H k=k (.int 7 n) (H.put r (bO b all (pos+(bE n).length))):=by
 have hle:=pn 8 n []
 simp only [YM,WI]at hle
 have hpn:bE n=UInt8.ofNat (be 8 n []).length :: be 8 n []:=rfl
 have hfb:=Xj hn
 have h8:(256:Nat) ^ 8=18446744073709551616:=by decide
 have hhd:=λd r h=>Iq 8 n [] r d (λh0=>by rw [h0]at h;simp [be]at h) (by omega) h
 rw [hpn]at hd ⊢
 generalize be 8 n []=s at hle hfb hhd hd ⊢
 have hdl:=congrArg Wo hd
 simp only [Wn,YD,YF]at hdl ⊢
 have hget:∀ j (h),∃ h':pos+1+j<all.length,all[pos+1+j]=s[j]:=λj h=>by
  refine ⟨by omega,?_⟩
  have h1:(all.drop pos)[1+j]? = (UInt8.ofNat s.length :: s ++ rest)[1+j]?:=by rw [hd]
  rw [WE,Nat.add_comm 1 j,show pos+(j+1)=pos+1+j by omega,YB (by omega)]at h1
  simp only [YP,List.getElem?_cons_succ]at h1
  rw [List.getElem?_append_left h,YB h]at h1
  exact Option.some.inj h1
 have hp0:pos<all.length:=by omega
 have hg0:=by
  have h1:(all.drop pos)[0]? = (UInt8.ofNat s.length :: s ++ rest)[0]?:=by rw [hd]
  rw [WE,WI,YB hp0]at h1
  exact Option.some.inj h1
 have e0:enc all >>> (8*pos) &&& 255=s.length:=by rw [AL all _ hp0,hg0,toNat_ofNat (by omega)]
 have e1:(dN (.gt 0 256) s.length 8=true)=False:=by
  rw [MU]
  exact propext ⟨λh=>by omega,False.elim⟩
 have e2:s.length%18446744073709551616=s.length:=by omega
 have e3:s.length<9223372036854775808:=by omega
 have e4:nn s.length:=by unfold nn;omega
 have n0:nn 0:=by unfold nn;omega
 have t1:∀ {k},aj (aQ cp t fuel (d+1)) (.func 275 [.ptr r 0]) [.int 7 1] H k=k (.slice b pos 1 2 0) (H.put r (bO b all (pos+1))):=λ{k}=>by
  exact tK T hw hr hrn hlen (by omega)
 have hw1:(H.put r (bO b all (pos+1))).wf:=by rw [Heap.bI];exact hw
 have t2:∀ {k},aj (aQ cp t fuel (d+1)) (.func 275 [.ptr r 0]) [.int 7 s.length] (H.put r (bO b all (pos+1))) k=k (.slice b (pos+1) s.length (s.length+1) 0) (H.put r (bO b all (pos+(s.length+1)))):=λ{k}=>by
  rw [vZ (f:=275) (g:=274) rfl rfl rfl]
  rw [YP,YN,tK T hw1 (by rw [Heap.aF hw hrn,if_pos rfl]) (by rw [Heap.aT];exact hrn) hlen (by omega),Heap.iI,show pos+1+s.length=pos+(s.length+1) by omega]
 have hL:=OL (cp:=cp) (fuel:=fuel) (c:=s.length+1) (z:=0) (G:=H.put r (bO b all (pos+(s.length+1)))) T (by rw [Heap.aF hw hrn,if_neg hbr];exact hb) hget hle s.length 0 (by omega) (d+1)
 rw [aB T.k96 rfl rfl]
 simp only [go_sem,ZE,c96,t1,t2,hw,hrn,hb,hbr,e0,e1,e2,e3,hp0]
 refine hL _ fuel _ (.ptr r 0) (.slice b (pos+1) s.length (s.length+1) 0) .aw (by omega) ?_ ?_ ?_ ?_ ?_ ?_ _ (λe' g0 g6 g5=>?_)
 .rfl
 .rfl
 .rfl
 .rfl
 .rfl
 .rfl
 .cases hs:s with
  | nil=>
   have e5:=by omega
   rw [hs]at g5 g6 hfb
   simp only [go_sem,ZE,g5,g6,n0,hfb]
  | cons x s'=>
   have hx:=hhd x s' hs
   have hxt:¬ x.toNat=0:=λh=>hx (UInt8.toNat_inj.1 h)
   obtain ⟨h1,h2⟩:=hget 0 (by rw [hs];simp)
   have e6:enc all >>> (8*(pos+1)) &&& 255=x.toNat:=by
    have:=AL all (pos+1) (by omega)
    rw [this]
    rw [h2]
    simp [hs]
   have e7:0<s'.length+1:=by omega
   have e8:=by exact e4
   have e9:s'.length+1<9223372036854775808:=by rw [hs]at e3;exact e3
   have e10:pos+1<all.length:=by omega
   rw [hs]at g5 g6 hfb
   simp only [go_sem,g5,g6,n0,hfb,e6,e7,e9,e10,hb,hbr,hw,hrn,hxt]
end
end Go.Ev
end
section
namespace Go.Ev
def tx (l:List UInt8):Tx:=(l.length,enc l)
theorem Vh (l):sv (tx l)=tv l:=rfl
theorem yE:∀ n:Nat,enc (YZ n 0)=0
 | 0=>rfl
 | n+1=>by rw [List.replicate_succ];simp only [enc,yE n];rfl
def fJ (a n:Nat):List UInt8:=bE (a+1) ++ (bE n ++ YZ (32-(bE (a+1) ++ bE n).length) 0)
theorem mD (a n):(fJ a n).length=32:=by
 have h1:=bK (a+1)
 have h2:=bK n
 simp only [fJ,YD,Wj]
 omega
section
variable {cp:RC->aq} {t:Nat->Option cW} {fuel:Nat} {H:Heap}
theorem Bq (T:aJ t) {a b} (hw:H.wf) (ha:a.length+b.length<4000000000000000000) (hfu:8<fuel):
 ∃ H',(∀ (d) (k),aj (aQ cp t fuel (d+3)) (.func 302 []) [tv a,tv b] H k=k (tv (a ++ bE b.length ++ b)) H')/\ae H H':=by
 obtain ⟨H',h1,f1⟩:=eE (cp:=cp) T (a:=a) (n:=b.length) hw (by omega) (by omega) hfu
 have hpl:=bK b.length
 have e1:b.length<9223372036854775808:=by omega
 have e2:b.length%18446744073709551616=b.length:=by omega
 have e3:(a ++ bE b.length).length+b.length<9223372036854775808:=by rw [YD];omega
 refine ⟨H',λd k=>?_,f1⟩
 rw [<- zM]
 rw [show tv (a ++ bE b.length) = .str (a ++ bE b.length).length (enc (a ++ bE b.length)) from rfl]at h1
 rw [show tv b = .str b.length (enc b) from rfl]
 generalize a ++ bE b.length=s at h1 e3 ⊢
 rw [aB T.abq rfl rfl]
 simp only [go_sem,aao,h1,e1,e2,e3]
theorem RB (T:aJ t) {a i d} {k} (ha:a<2) (hi:i<1000000):
 aj (aQ cp t fuel (d+1)) (.func 176 []) [.int 3 a,.int 3 i] H k=k (.int 3 (1+a*72+i)) H:=by
 have e1:a*72%18446744073709551616=a*72:=by omega
 have e2:(1+a*72)%18446744073709551616=1+a*72:=by omega
 have e3:(1+a*72+i)%18446744073709551616=1+a*72+i:=by omega
 rw [aB T.k88 rfl rfl]
 simp only [go_sem,c88,e1,e2,e3]
theorem od (T:aJ t) {a n} (hw:H.wf) (ha:a<2) (hn:n<=72) (hfu:8<fuel):
 ∃ H',(∀ (d) (k),aj (aQ cp t fuel (d+3)) (.func 244 []) [.int 3 a,.int 3 n] H k=k (tv (fJ a n)) H')/\ae H H':=by
 obtain ⟨H1,h1,f1⟩:=eE (cp:=cp) T (a:=[]) (n:=a+1) hw (by simp) (by omega) hfu
 obtain ⟨H2,h2,f2⟩:=eE (cp:=cp) T (a:=bE (a+1)) (n:=n) f1.wf (by have:=bK (a+1);omega) (by omega) hfu
 have l1:=bK (a+1)
 have l2:=bK n
 refine ⟨H2.new (.bytes (32-(bE (a+1) ++ bE n).length) 0),λd k=>?_,(f1.trans f2).trans (ae.new f2.wf)⟩
 have hh:fJ a n=(bE (a+1) ++ bE n) ++ YZ (32-(bE (a+1) ++ bE n).length) 0:=by simp [fJ]
 rw [hh,<- zM,yE,Nat.zero_mul,WI,Wj]
 rw [show tv ([]:List UInt8) = .str 0 0 from rfl]at h1
 have hs:(bE (a+1) ++ bE n).length<=18:=by rw [YD];omega
 rw [show tv (bE (a+1) ++ bE n) = .str (bE (a+1) ++ bE n).length (enc (bE (a+1) ++ bE n)) from rfl]at h2
 generalize bE (a+1) ++ bE n=s at h2 hs ⊢
 have e1:a%18446744073709551616=a:=by omega
 have e2:(a+1)%18446744073709551616=a+1:=by omega
 have e3:n%18446744073709551616=n:=by omega
 have e4:s.length<9223372036854775808:=by omega
 have e5:(32+(18446744073709551616-s.length))%18446744073709551616=32-s.length:=by omega
 have e6:32-s.length<=16777216:=by omega
 have e7:s.length+(32-s.length)<9223372036854775808:=by omega
 have hw2:=f2.wf
 rw [aB T.aa5 rfl rfl]
 simp only [go_sem,Z9,h1,h2,e1,e2,e3,e4,e5,e6,e7,hw2]
theorem kf (T:aJ t) {l} {d} {k} (hw:H.wf) (hl:l.length<1000000):
 aj (aQ cp t fuel (d+1)) (.func 188 []) [tv l] H k=k (.ptr (H.n+1) 0) ((H.new (.bytes l.length (enc l))).new (bO H.n l 0)):=by
 have e1:l.length<=16777216:=by omega
 rw [show tv l = .str l.length (enc l) from rfl,aB T.k94 rfl rfl]
 simp only [go_sem,c94,hw,e1,bO,QX]
theorem Jb (T:aJ t) {r b pos d} {all} {k} (hr:H.get r=bO b all pos):
 aj (aQ cp t fuel (d+1)) (.func 308 []) [.ptr r 0] H k=k (.bool true) H:=by
 unfold bO at hr
 rw [aB T.abu rfl rfl]
 simp only [go_sem,aap,hr]
set_option maxRecDepth 4000 in
theorem Hd (T:aJ t) {a n} (hw:H.wf) (ha:a<2) (hn:n<=72) (hfu:8<fuel):
 ∃ H',(∀ (d) (k),aj (aQ cp t fuel (d+4)) (.func 252 []) [tv (fJ a n)] H k=k (.cE [.int 3 a,.int 3 n,.bool true]) H')/\ae H H':=by
 have hlen:=mD a n
 have hd1:(fJ a n).drop 0=bE (a+1) ++ (bE n ++ YZ (32-(bE (a+1) ++ bE n).length) 0):=rfl
 have hd2:(fJ a n).drop (0+(bE (a+1)).length)=bE n ++ YZ (32-(bE (a+1) ++ bE n).length) 0:=by rw [WG,fJ,YJ1]
 have hnr:∀ {d} {k},aj (aQ cp t fuel (d+1)) (.func 188 []) [tv (fJ a n)] H k=k (.ptr (H.n+1) 0) ((H.new (.bytes 32 (enc (fJ a n)))).new (bO H.n (fJ a n) 0)):=λ{d k}=>by
  rw [kf T hw (by omega),hlen]
 have fG:ae H ((H.new (.bytes 32 (enc (fJ a n)))).new (bO H.n (fJ a n) 0)):=(ae.new hw).trans (ae.new (by rw [Heap.bg];omega))
 generalize hG:(H.new (.bytes 32 (enc (fJ a n)))).new (bO H.n (fJ a n) 0)=G at hnr fG
 have gw:=fG.wf
 have gn:G.n=H.n+1+1:=by rw [<- hG];simp only [Heap.aO]
 have gr:G.get (H.n+1)=bO H.n (fJ a n) 0:=by rw [<- hG,Heap.aH (by rw [Heap.bg];omega),if_pos (by rw [Heap.aO])]
 have gb:G.get H.n = .bytes (fJ a n).length (enc (fJ a n)):=by rw [<- hG,Heap.aH (by rw [Heap.bg];omega),if_neg (by rw [Heap.aO];omega),Heap.aH hw,if_pos rfl,hlen]
 have hrn:H.n+1<G.n:=by omega
 have hne:H.n≠H.n+1:=by omega
 have hn1:∀ {d} {k},aj (aQ cp t fuel (d+2)) (.func 192 []) [.ptr (H.n+1) 0] G k=k (.int 7 (a+1)) (G.put (H.n+1) (bO H.n (fJ a n) (0+(bE (a+1)).length))):=λ{d k}=>kg T gw gr hrn gb hne (by omega) (by omega) hd1 hfu
 generalize hpos:0+(bE (a+1)).length=pos at hn1 hd2
 have hn2:∀ {d} {k},aj (aQ cp t fuel (d+2)) (.func 192 []) [.ptr (H.n+1) 0] (G.put (H.n+1) (bO H.n (fJ a n) pos)) k=k (.int 7 n) (G.put (H.n+1) (bO H.n (fJ a n) (pos+(bE n).length))):=λ{d k}=>by
  rw [kg T (by rw [Heap.bI];omega) (by rw [Heap.aF gw hrn,if_pos rfl]) (by rw [Heap.aT];omega) (by rw [Heap.aF gw hrn,if_neg hne];omega) hne (by omega) (by omega) hd2 hfu,Heap.iI]
 have fG2:ae H (G.put (H.n+1) (bO H.n (fJ a n) (pos+(bE n).length))):=ae.put fG (by omega) hrn
 have hok:∀ {d} {k},aj (aQ cp t fuel (d+1)) (.func 308 []) [.ptr (H.n+1) 0] (G.put (H.n+1) (bO H.n (fJ a n) (pos+(bE n).length))) k=k (.bool true) (G.put (H.n+1) (bO H.n (fJ a n) (pos+(bE n).length))):=λ{d k}=>Jb T (by rw [Heap.aF gw hrn,if_pos rfl])
 obtain ⟨H3,hh,f3⟩:=od (cp:=cp) T fG2.wf ha hn hfu
 refine ⟨H3,λd k=>?_,fG2.trans f3⟩
 rw [show tv (fJ a n) = .str 32 (enc (fJ a n)) by rw [tv,hlen]]at hnr hh ⊢
 have e1:(dN (.lt 0 18446744073709551616) (a+1) 1=true)=False:=by rw [yW (by omega) (by omega)];exact propext ⟨λh=>by omega,False.elim⟩
 have e2:(dN (.gt 0 18446744073709551616) (a+1) 2=true)=False:=by rw [mW (by omega) (by omega)];exact propext ⟨λh=>by omega,False.elim⟩
 have e3:(dN (.gt 0 18446744073709551616) n 72=true)=False:=by rw [mW (by omega) (by omega)];exact propext ⟨λh=>by omega,False.elim⟩
 have e4:(a+1)%18446744073709551616=a+1:=by omega
 have e5:(a+1+18446744073709551615)%18446744073709551616=a:=by omega
 have e6:n%18446744073709551616=n:=by omega
 rw [aB T.aa8 rfl rfl]
 simp only [go_sem,aab,hnr,hn1,hn2,hok,hh,e1,e2,e3,e4,e5,e6,and_self]
theorem yM (T:aJ t) (hc:aY t) {p a n} {A} {O} (hD:cP H p A O) (ho:A.off=false) (hl:0<A.len) (hr:A.read 0=tx (fJ a n)) (ha:a<2) (hn:n<=72) (hfu:8<fuel):
 ∃ H',(∀ (d) (k),aj (aQ cp t fuel (d+5)) (.func 172 []) [.ptr p 0] H k=k (.cE [.int 3 a,.int 3 n,.int 3 0]) H')/\ae H H':=by
 obtain ⟨H1,h1,f1⟩:=oK (cp:=cp) (fuel:=fuel) (T.iP hc) hD ho hl
 obtain ⟨H2,h2,f2⟩:=Hd (cp:=cp) T f1.wf ha hn hfu
 refine ⟨H2,λd k=>?_,f1.trans f2⟩
 rw [hr,Vh]at h1
 rw [aB T.k86 rfl rfl]
 simp only [go_sem,c86,h1,h2]
end
end Go.Ev
end
section
namespace Go.Ev
theorem ae.dW {G G':Heap} (h:ae G.mark G'):ae G (G'.dW G.bC)/\G.n<=G'.bC:=
 ⟨⟨h.wf,h.n,h.same,λ_ h1 _=>h1⟩,h.lo G.n (YA _) (YA _)⟩
def ur (x:Tx):Prop:=x.2<256 ^ x.1
def Fa (w:Wr):List UInt8:=aC w.2.1 w.2.2
theorem PU {w} (h:ur w.2):tv (Fa w) = .str w.2.1 w.2.2:=by
 unfold tv Fa
 rw [aM,mC _ _ h]
theorem kF (w):(Fa w).length=w.2.1:=aM _ _
def yg (w:Wr):List UInt8:=bE w.1 ++ bE w.2.1 ++ Fa w
def nG (ws:List Wr):List UInt8:=ws.flatMap yg
theorem uw (w):(yg w).length<=w.2.1+18:=by
 have h1:=bK w.1
 have h2:=bK w.2.1
 simp only [yg,YD,kF]
 omega
theorem Ea:∀ (ws),(∀ w ∈ ws,w.2.1<=1000)->(nG ws).length<=ws.length*1018
 | [],_=>by simp [nG]
 | w :: ws,h=>by
  have h1:=uw w
  have h2:=Ea ws λv hv=>h v (YH _ hv)
  have h3:=h w (YI ..)
  have:nG (w :: ws)=yg w ++ nG ws:=rfl
  rw [this]
  simp only [YD,YF]
  omega
section
variable {cp:RC->aq} {t:Nat->Option cW} {fuel:Nat} {H:Heap}
set_option maxRecDepth 4000 in
theorem Ed (T:aJ t) {b c s n:Nat} {all:List Wr} (hfu:8<fuel) (hb:H.get b = .cells (bZ all)) (hbn:b<H.n) (hn:n=all.length) (hnb:n<10000) (hall:∀ w ∈ all,w.1<18446744073709551616/\w.2.1<=1000/\ur w.2):
 ∀ (ws pre:List Wr) (acc:List UInt8) (G:Heap),all=pre ++ ws->acc.length+ws.length*1018<100000000->ae H G->
 ∃ G',ae H G'/\∀ (d:Nat) (kx:Nat->KE) (r:Nat) (e:Env) (v0:V),ws.length<r->aa s000 e=v0->aa s006 e=tv acc->aa s022 e = .slice b 0 n c s->aa s023 e = .int 3 n->aa s024 e = .int 3 pre.length->
  ∀ x:R,(∀ e',aa s000 e'=v0->aa s006 e'=tv (acc ++ nG ws)->kx 1 e' G'=x)->
  lr Aj fuel (aQ cp t fuel (d+3)) kx r e G=x:=by
 intro ws
 induction ws with
 | nil=>
  intro pre acc G hal hac f
  refine ⟨G,f,λd kx r e v0 hr h0 h6 h22 h23 h24 x hT=>?_⟩
  obtain ⟨r,rfl⟩:∃ q,r=q+1:=⟨r-1,by omega⟩
  have hi:pre.length=n:=by rw [hn,hal,YW]
  have e1:¬ n<n:=by omega
  have e2:nn n:=by unfold nn;omega
  rw [ax]
  rw [hi]at h24
  simp only [go_sem,Aj,h23,h24,e1,e2]
  exact hT _ h0 (by simp only [go_sem,h6,nG,Wv])
 | cons w ws ih=>
  intro pre acc G hal hac f
  simp only [YF]at hac
  have hw:=f.wf
  obtain ⟨hw1,hw2,hw3⟩:=hall w (by rw [hal];simp)
  have hlt:pre.length<n:=by rw [hn,hal];simp only [YD,YF];omega
  have e1:nn pre.length:=by unfold nn;omega
  have e2:nn n:=by unfold nn;omega
  have e3:pre.length<9223372036854775808:=by omega
  have e4:pre.length*2<=(bZ all).length:=by rw [dj,<- hn];omega
  have hd:(bZ all).drop (pre.length*2) = .int 3 w.1 :: .str w.2.1 w.2.2 :: bZ ws:=by rw [hal,py];rfl
  have e5:=by omega
  have e8:G.n<G.n+1:=by omega
  have e9:(pre.length+1)%18446744073709551616=pre.length+1:=by omega
  have e10:w.1%18446744073709551616=w.1:=by omega
  have hbG:=(f.same b hbn).trans hb
  generalize hG1:(G.new (.cells [.int 3 0,.str 0 0])).put G.n (.cells [.int 3 w.1,.str w.2.1 w.2.2])=G1
  have f1:ae H G1:=by rw [<- hG1];exact ae.put (f.trans (ae.new hw)) f.n (by simp only [Heap.aO];omega)
  have g1n:G1.get G.n = .cells [.int 3 w.1,.str w.2.1 w.2.2]:=by rw [<- hG1];simp only [Heap.aF,Heap.aH,Heap.bg,Heap.aO,hw,e8,if_true]
  have g1l:G.n<G1.n:=by rw [<- hG1];simp only [Heap.aT,Heap.aO];omega
  have rl:=uw w
  have pl1:=bK w.1
  obtain ⟨G2m,hc2,f2m⟩:=eE (H:=G1.mark) (cp:=cp) T (a:=acc) f1.wf (by omega) hw1 hfu
  obtain ⟨f2,hlo⟩:=f2m.dW
  generalize hG2:G2m.dW G1.bC=G2 at f2
  have g2n:=(f2.same _ g1l).trans g1n
  obtain ⟨G3,hc3,f3⟩:=Bq (cp:=cp) T (a:=acc ++ bE w.1) (b:=Fa w) f2.wf (by simp only [YD,kF];omega) hfu
  have hacc:acc ++ bE w.1 ++ bE (Fa w).length ++ Fa w=acc ++ yg w:=by rw [kF];simp only [yg,WC]
  rw [hacc,PU hw3]at hc3
  obtain ⟨G',f',hG'⟩:=ih (pre ++ [w]) (acc ++ yg w) G3 (by rw [hal];simp) (by rw [YD];omega) ((f1.trans f2).trans f3)
  refine ⟨G',f',λd kx r e v0 hr h0 h6 h22 h23 h24 x hT=>?_⟩
  obtain ⟨r,rfl⟩:∃ q,r=q+1:=⟨r-1,by omega⟩
  have hc2':=λ{d} {k}=>hc2 (d+1) k
  rw [ax]
  simp only [go_sem,Aj,h6,h22,h23,h24,hlt,e1,e2,e3,e4,hd,e8,e9,e10,hbG,hw,hG1,g1n,hc2',hlo,hG2,g2n,hc3]
  refine hG' d kx r _ v0 (by simp only [YF]at hr;omega) ?_ ?_ ?_ ?_ ?_ x (λe' g0 g6=>hT e' g0 (by rw [g6];simp only [nG,WS,WC]))<;>simp only [go_sem,h0,h22,h23]
end
end Go.Ev
end
section
namespace Go.Ev
structure cT (pk:List UInt8->List (List UInt8)) (unpk:List (List UInt8)->Option (List UInt8)):Prop where
 len:∀ t,t.length<=8192->∀ s ∈ pk t,s.length=32
 num:∀ t,t.length<=2240->(pk t).length<=72
 pos:∀ t,t.length<=8192->pk t≠[]
 back:∀ t,t.length<=8192->unpk (pk t)=some t
 size:∀ t,t.length<=8192->(pk t).length=(t.length+37)/32
 short:∀ t k,t.length<=8192->k<(pk t).length->unpk ((pk t).take k)=none
noncomputable def fN (pk:List UInt8->List (List UInt8)) (args:List V) (H:Heap) (k:K):R:=
 match args with
 | [.str l n]=>if l<=8192/\n<256 ^ l then cA H (.cells ((pk (aC l n)).map tv)) λb H'=>k (.cE [.slice b 0 (pk (aC l n)).length 0 1,.int 3 0]) H' else no 0
 | _=>no 0
def outs (area:Nat) (ps:List (List UInt8)):List Wr:=ps.mapIdx λi s=>(1+area*72+i,tx s)
theorem uu (area) (ps):(outs area ps).length=ps.length:=by simp [outs]
theorem Kv (area) (ps) (s):outs area (ps ++ [s])=outs area ps ++ [(1+area*72+ps.length,tx s)]:=by simp [outs,List.mapIdx_append]
def dD (ws:List Wr):List UInt8:=bE ws.length ++ nG ws
def yo (H G:Heap) (v:V) (ws:List Wr):Prop:=(v = .aw/\ws=[])\/∃ b,v = .slice b 0 ws.length 0 2/\ws≠[]/\G.get b = .cells (bZ ws)/\H.n<=b/\b<G.n
section
variable {cp:RC->aq} {t:Nat->Option cW} {fuel:Nat} {H:Heap}
theorem B9 (T:aJ t) {a i d} {k} {G} (ha:a<2) (hi:i<1000000):
 aj (aQ cp t fuel (d+1)) (.func 176 []) [.int 3 a,.int 3 i] G k=k (.int 3 (1+a*72+i)) G:=RB T ha hi
set_option maxRecDepth 4000 in
theorem Bu (T:aJ t) {b area n:Nat} {all:List (List UInt8)} (ha:area<2) (hn:n=all.length) (hnb:n<10000):
 ∀ (ps pre:List (List UInt8)) (G:Heap) (vo:V),all=pre ++ ps->ae H G->yo H G vo (outs area pre)->G.get b = .cells (all.map tv)->b<G.n->(∀ bo l c s z,vo = .slice bo l c s z->b≠bo)->
 ∃ G' vo',ae H G'/\yo H G' vo' (outs area all)/\∀ (d:Nat) (kx:Nat->KE) (r:Nat) (e:Env),ps.length<r->aa s000 e = .int 3 area->aa s013 e=vo->aa s055 e = .slice b 0 n 0 1->aa s056 e = .int 3 n->aa s057 e = .int 3 pre.length->
  ∀ x:R,(∀ e',aa s013 e'=vo'->kx 3 e' G'=x)->
  lr vV fuel (aQ cp t fuel (d+1)) kx r e G=x:=by
 intro ps
 induction ps with
 | nil=>
  intro pre G vo hal f hg hb hbn hbo
  have hal':all=pre:=by rw [hal,YW]
  rw [<- hal']at hg
  refine ⟨G,vo,f,hg,λd kx r e hr h0 h13 h55 h56 h57 x hT=>?_⟩
  obtain ⟨r,rfl⟩:∃ q,r=q+1:=⟨r-1,by simp only [YM]at hr;omega⟩
  have hi:pre.length=n:=by rw [hn,hal']
  have e1:¬ n<n:=by omega
  have e2:nn n:=by unfold nn;omega
  rw [ax]
  rw [hi]at h57
  simp only [go_sem,vV,h56,h57,e1,e2]
  exact hT _ h13
 | cons p ps ih=>
  intro pre G vo hal f hg hb hbn hbo
  have hw:=f.wf
  have hlt:pre.length<n:=by rw [hn,hal];simp only [YD,YF];omega
  have e1:nn pre.length:=by unfold nn;omega
  have e2:nn n:=by unfold nn;omega
  have e3:pre.length<9223372036854775808:=by omega
  have hget:(all.map tv)[pre.length]? = some (tv p):=by rw [hal];simp
  have hnth:∀ {id} {k},nth id (all.map tv) pre.length k=k (.str p.length (enc p)):=js hget
  have e9:(pre.length+1)%18446744073709551616=pre.length+1:=by omega
  have hat:∀ {d} {k} {G},aj (aQ cp t fuel (d+1)) (.func 176 []) [.int 3 area,.int 3 pre.length] G k=k (.int 3 (1+area*72+pre.length)) G:=λ{d k G}=>B9 T ha (by omega)
  have hbG:¬ b=G.n:=by omega
  have hos:=Kv area pre p
  have hol:=uu area pre
  have e20:2<=2:=YA _
  have e21:=by omega
  rcases hg with ⟨rfl,ho⟩|⟨bo,rfl,ho,hbo2,hbo3,hbo4⟩
  .have hp0:pre.length=0:=by rw [<- hol,ho];rfl
   have f2:ae H ((G.new (.cells [.int 3 (1+area*72+pre.length),.str p.length (enc p)])).new (.cells [.int 3 (1+area*72+pre.length),.str p.length (enc p)])):=(f.trans (ae.new hw)).trans (ae.new (by rw [Heap.bg];exact hw))
   have gn:((G.new (.cells [.int 3 (1+area*72+pre.length),.str p.length (enc p)])).new (.cells [.int 3 (1+area*72+pre.length),.str p.length (enc p)])).n=G.n+1+1:=by simp only [Heap.aO]
   obtain ⟨G',vo',f',hg',hG'⟩:=ih (pre ++ [p]) _ (.slice (G.n+1) 0 1 0 2) (by rw [hal];simp) f2 (by
    refine YE ⟨G.n+1,by rw [hos,ho];rfl,by rw [hos];simp,?_,by have:=f.n;omega,by rw [gn];omega⟩
    rw [Heap.aH (by rw [Heap.bg];exact hw),if_pos (by rw [Heap.aO]),hos,ho]
    rfl) (by rw [Heap.aH (by rw [Heap.bg];exact hw),if_neg (by rw [Heap.aO];omega),Heap.aH hw,if_neg hbG];exact hb) (by rw [gn];omega) (λbo l c s z he=>by cases he;omega)
   refine ⟨G',vo',f',hg',λd kx r e hr h0 h13 h55 h56 h57 x hT=>?_⟩
   obtain ⟨r,rfl⟩:∃ q,r=q+1:=⟨r-1,by omega⟩
   rw [ax]
   simp only [go_sem,↓dG,vV,h0,h13,h55,h56,h57,hlt,e1,e2,e3,e9,hb,hnth,hat,hw,e20]
   refine hG' d kx r _ (by simp only [YF]at hr;omega) ?_ ?_ ?_ ?_ ?_ x hT<;>simp only [go_sem,h0,h55,h56]
  .have hbb:=hbo bo _ _ _ _ rfl
   have e4:¬ bo=G.n:=by omega
   have e5:bo<G.n+1:=by omega
   have e6:pre.length+1<=1073741824:=by omega
   have e7:(bZ (outs area pre)).length=pre.length*2:=by rw [dj,hol]
   have gn:(((G.new (.cells [.int 3 (1+area*72+pre.length),.str p.length (enc p)])).put bo .dead).new (.cells (bZ (outs area pre) ++ [.int 3 (1+area*72+pre.length),.str p.length (enc p)]))).n=G.n+1+1:=by simp only [Heap.aO,Heap.aT]
   have w1:((G.new (.cells [.int 3 (1+area*72+pre.length),.str p.length (enc p)])).put bo .dead).wf:=by simp only [Heap.bI,Heap.bg,hw]
   have n1:((G.new (.cells [.int 3 (1+area*72+pre.length),.str p.length (enc p)])).put bo .dead).n=G.n+1:=by simp only [Heap.aO,Heap.aT]
   have f2:ae H (((G.new (.cells [.int 3 (1+area*72+pre.length),.str p.length (enc p)])).put bo .dead).new (.cells (bZ (outs area pre) ++ [.int 3 (1+area*72+pre.length),.str p.length (enc p)]))):=(ae.put (f.trans (ae.new hw)) hbo3 (by rw [Heap.aO];omega)).trans (ae.new w1)
   obtain ⟨G',vo',f',hg',hG'⟩:=ih (pre ++ [p]) _ (.slice (G.n+1) 0 (pre.length+1) 0 2) (by rw [hal];simp) f2 (by
    refine YE ⟨G.n+1,by rw [hos];simp [hol],by rw [hos];simp,?_,by omega,by omega⟩
    rw [Heap.aH w1,if_pos n1.symm,hos,ei]
    rfl) (by rw [Heap.aH w1,if_neg (by omega),Heap.aF (by rw [Heap.bg];exact hw) (by rw [Heap.aO];omega),if_neg hbb,Heap.aH hw,if_neg hbG];exact hb) (by omega) (λbo l c s z he=>by cases he;omega)
   refine ⟨G',vo',f',hg',λd kx r e hr h0 h13 h55 h56 h57 x hT=>?_⟩
   obtain ⟨r,rfl⟩:∃ q,r=q+1:=⟨r-1,by omega⟩
   rw [hol]at h13
   rw [ax]
   simp only [go_sem,↓dG,vV,h0,h13,h55,h56,h57,hlt,e1,e2,e3,e9,hb,hnth,hat,hw,e20,e4,e5,e6,e7,hbo2]
   refine hG' d kx r _ (by simp only [YF]at hr;omega) ?_ ?_ ?_ ?_ ?_ x hT<;>simp only [go_sem,h0,h55,h56]
theorem L5:∀ (k m n) (s),n<256 ^ k->(be m n s).length<=k+s.length
 | _,0,n,s,_=>by simp [be]
 | 0,m+1,n,s,h=>by simp at h;subst h;simp [be]
 | k+1,m+1,n,s,h=>by
  simp only [be]
  split
  .omega
  .have:=L5 k m (n/256) (UInt8.ofNat (n%256):: s) (by omega)
   simp only [YF]at this
   omega
theorem iU (k n) (h:n<256 ^ k):(bE n).length<=k+1:=by
 have:=L5 k 8 n [] h
 simp only [bE,YF,YM]at *
 omega
structure qV (ws:List Wr):Prop where
 num:ws.length<=60
 at_:∀ w ∈ ws,w.1<65536
 len:∀ w ∈ ws,w.2.1=32
 ok:∀ w ∈ ws,ur w.2
theorem D9:∀ (ws),(∀ w ∈ ws,w.1<65536/\w.2.1=32)->(nG ws).length<=ws.length*37
 | [],_=>by simp [nG]
 | w :: ws,h=>by
  obtain ⟨h1,h2⟩:=h w (YI ..)
  have h3:=D9 ws λv hv=>h v (YH _ hv)
  have:nG (w :: ws)=yg w ++ nG ws:=rfl
  rw [this]
  have p1:=iU 2 w.1 (by omega)
  have p2:=iU 1 w.2.1 (by omega)
  simp only [YD,YF,yg,kF]
  omega
theorem qV.text {ws:List Wr} (h:qV ws):(dD ws).length<=2240:=by
 have h1:=D9 ws λw hw=>⟨h.at_ w hw,h.len w hw⟩
 have p2:=iU 1 ws.length (by have:=h.num;omega)
 have h2:=h.num
 simp only [dD,YD]
 omega
set_option maxRecDepth 8000 in
theorem Ec (T:aJ t) {pk} {unpk} (F:cT pk unpk) (hp:t 123=some (.nat (fN pk))) {area} {v} {O} {ws} (hw:H.wf) (ha:area<2) (hv:mi H v ws O) (hr:qV ws) (h0:ws≠[]) (hfu:100<fuel):
 ∃ H' vo,(∀ (d) (k),aj (aQ cp t fuel (d+4)) (.func 248 []) [.int 3 area,v] H k=k (.cE [vo,.int 3 0]) H')/\ae H H'/\yo H H' vo (outs area (pk (dD ws))):=by
 rcases hv with ⟨_,h⟩|⟨b,c,s,rfl,hb,hbn,_⟩
 .exact absurd h h0
 have hnum:=hr.num
 have htl:=hr.text
 obtain ⟨H1,hc1,f1⟩:=eE (cp:=cp) (fuel:=fuel) T (a:=[]) (n:=ws.length) hw (by simp) (by omega) (by omega)
 have hl1:=bK ws.length
 obtain ⟨H2,f2,hL⟩:=Ed (cp:=cp) (fuel:=fuel) (c:=c) (s:=s) T (by omega) ((f1.same b hbn).trans hb) (YC hbn f1.n) rfl (by omega) (λw hw=>⟨by have:=hr.at_ w hw;omega,by have:=hr.len w hw;omega,hr.ok w hw⟩) ws [] (bE ws.length) H1 rfl (by omega) (ae.refl f1.wf)
 have hw2:=f2.wf
 have htx:bE ws.length ++ nG ws=dD ws:=rfl
 rw [htx]at hL
 have hpk:=F.num _ htl
 have hpl:∀ {d} {k},aj (aQ cp t fuel (d+1)) (.func 246 []) [.str (dD ws).length (enc (dD ws))] H2 k=k (.cE [.slice H2.n 0 (pk (dD ws)).length 0 1,.int 3 0]) (H2.new (.cells ((pk (dD ws)).map tv))):=λ{d k}=>by
  rw [nT hp rfl rfl]
  simp only [fN,YW,fq]
  rw [if_pos ⟨by omega,iw _⟩,cS hw2]
 generalize dD ws=tx at hL hpk hpl htl ⊢
 have f3:ae H (H2.new (.cells ((pk tx).map tv))):=(f1.trans f2).trans (ae.new hw2)
 obtain ⟨H4,vo,f4,g4,hL2⟩:=Bu (all:=pk tx) T ha rfl (by omega) (pk tx) [] (H2.new (.cells ((pk tx).map tv))) .aw rfl (ae.refl f3.wf) (YG ⟨rfl,rfl⟩) (by rw [Heap.aH hw2,if_pos rfl]) (by rw [Heap.aO];omega) (λ_ _ _ _ _ h=>by cases h)
 refine ⟨H4,vo,λd k=>?_,f3.trans f4,?_⟩
 .have e1:ws.length<9223372036854775808:=by omega
  have e2:ws.length%18446744073709551616=ws.length:=by omega
  have e3:(pk tx).length<9223372036854775808:=by omega
  have e4:¬ 72<(pk tx).length:=by omega
  have n72:nn 72:=by unfold nn;omega
  have e5:nn (pk tx).length:=by unfold nn;omega
  rw [show tv [] = .str 0 0 from rfl,YN]at hc1
  rw [aB T.aa6 rfl rfl]
  simp only [go_sem,ZE,aaa,hc1,e1,e2]
  refine hL d _ fuel _ (.int 3 area) (by omega) ?_ ?_ ?_ ?_ ?_ _ (λe' g0 g6=>?_)
  .rfl
  .rfl
  .rfl
  .rfl
  .rfl
  .rw [show tv tx = .str tx.length (enc tx) from rfl]at g6
   simp only [go_sem,g6,hpl,e3,e4,e5,n72]
   refine hL2 _ _ fuel _ (by omega) ?_ ?_ ?_ ?_ ?_ _ (λe'' g13=>?_)
   .simp only [go_sem,g0]
   .rfl
   .rfl
   .rfl
   .rfl
   .simp only [go_sem,g13]
 .rcases g4 with g|⟨b',g1,g2,g3,g4,g5⟩
  .exact YG g
  .exact YE ⟨b',g1,g2,g3,Nat.le_trans f3.n g4,g5⟩
end
end Go.Ev
end
section
namespace Go.Ev
theorem dx:∀ (es:List (Nat × Tx)) (a) (v:Tx) (k),find (eD es a v) k=if k=a then some v else find es k
 | [],a,v,k=>by
  simp only [eD,find,Qz,List.find?_nil]
  by_cases h:k=a
  .simp_all
  .have:(a == k)=false:=by simpa using λe=>h e.symm
   simp [this,h]
 | p :: es,a,v,k=>by
  have ih:=dx es a v k
  simp only [eD]
  by_cases hp:p.1=a
  .rw [if_pos hp]
   simp only [find,Qz]at ih ⊢
   by_cases h:k=a
   .simp_all
   .have:(p.1 == k)=false:=by simpa using λe=>h (e.symm.trans hp)
    simp [this,h]
  .rw [if_neg hp]
   simp only [find,Qz]at ih ⊢
   by_cases h:p.1=k
   .simp_all
   .have h1:(p.1 == k)=false:=by simp_all
    simp only [h1]
    omega
theorem tX {p q} {a} (hpq:∀ k,q k=true->p k=true) (ha:p a=true) (hqa:q a=false):∀ {K:List Nat},a ∈ K->K.countP q+1<=K.countP p
 | [],h=>by cases h
 | b :: K,h=>by
  have hle:K.countP q<=K.countP p:=YI4 λk _ hk=>hpq k hk
  simp only [List.countP_cons]
  by_cases hb:b=a
  .simp_all
  .have h':a ∈ K:=by
    rcases YT.1 h with e|h
    .omega
    omega
   have ih:=tX hpq ha hqa h'
   by_cases hq:q b=true
   .simp_all
   .rw [if_neg hq];omega
theorem Ee {room} {K ns:List Nat}:∀ {ws} {es:List (Nat × Tx)},(∀ w ∈ ws,w.1 ∈ ns)->(∀ n ∈ ns,(find es n).isSome=true\/n ∈ K)->(K=[]\/es.length+K.countP (λk=>(find es k).isNone)<=room)->roomy room es ws
 | [],_,_,_,_=>trivial
 | w :: ws,es,hw,hn,hK=>by
  have hwn:=hw w (YI ..)
  have hn':∀ n ∈ ns,(find (eD es w.1 w.2) n).isSome=true\/n ∈ K:=λn h=>by
   rw [dx]
   split
   .simp
   simp_all
  refine ⟨?_,Ee (λv hv=>hw v (YH _ hv)) hn' ?_⟩
  .by_cases hs:(find es w.1).isSome=true
   .simp_all
   .have hk:=(hn w.1 hwn).resolve_left hs
    rcases hK with rfl|hK
    .cases hk
    .have h1:(find es w.1).isNone=true:=by simp_all
     have:0<K.countP (λk=>(find es k).isNone):=List.countP_pos_iff.2 ⟨w.1,hk,h1⟩
     omega
  .rcases hK with hK|hK
   .simp_all
   .rw [ld]
    by_cases hs:(find es w.1).isSome=true
    .rw [if_pos hs]
     have:K.countP (λk=>(find (eD es w.1 w.2) k).isNone)<=K.countP (λk=>(find es k).isNone):=YI4 λk _ hk=>by
      rw [dx]at hk
      split at hk
      .cases hk
      omega
     omega
    .rw [if_neg hs]
     have hk:=(hn w.1 hwn).resolve_left hs
     have h1:(find es w.1).isNone=true:=by simp_all
     have:=tX (p:=λk=>(find es k).isNone) (q:=λk=>(find (eD es w.1 w.2) k).isNone) (λk hk=>by
      rw [dx]at hk
      split at hk
      .cases hk
      omega) h1 (by rw [dx,if_pos rfl];rfl) hk
     omega
theorem om:∀ (D) (a v k),k ∈ (se D a v).map (·.1)↔k=a\/k ∈ D.map (·.1)
 | [],a,v,k=>by simp [se]
 | p :: D,a,v,k=>by
  have ih:=om D a v k
  simp only [se]
  split
  .simp_all
  .simp only [Yd,YT,ih]
   constructor
   .rintro (h1|h1|h1)
    .omega
    .omega
    simp_all
   .rintro (h1|h1|h1)
    .omega
    .omega
    simp_all
theorem Dg {es:List (Nat × Tx)} {ns}:∀ (m),∀ i,i<m->(find es (ns.getD i 0)).isSome=false->ns.getD i 0 ∈ (vk es ns m).map (·.1)
 | 0,i,h,_=>by omega
 | m+1,i,h,hn=>by
  simp only [vk]
  by_cases hi:i=m
  .subst hi
   rw [if_neg (by simp_all),wg,om]
   simp
  .have ih:=Dg m i (by omega) hn
   split
   .omega
   .rw [wg,om];simp_all
def AD.fits (A:AD) (ns:List Nat):Bool:=decide ((vk A.es ns ns.length).length=0\/A.es.length+(vk A.es ns ns.length).length<=A.room)
theorem F8 {A:AD} {ns} {ws} (h:A.fits ns=true) (hw:∀ w ∈ ws,w.1 ∈ ns):roomy A.room A.es ws:=by
 have h:=of_decide_eq_true h
 refine Ee (K:=(vk A.es ns ns.length).map (·.1)) hw (λn hn=>?_) ?_
 .obtain ⟨i,hi,rfl⟩:=List.mem_iff_getElem.1 hn
  have hg:ns.getD i 0=ns[i]:=by simp_all
  by_cases hs:(find A.es ns[i]).isSome=true
  .simp_all
  .have:=Dg ns.length i hi (by rw [hg];simpa using hs)
   simp_all
 .rcases h with h|h
  .simp_all
  .have:=List.countP_le_length (p:=λk=>(find A.es k).isNone) (l:=(vk A.es ns ns.length).map (·.1))
   rw [Yl]at this
   omega
def uP (ns:List Nat):List V:=ns.map (V.int 3)
def Ff (H G:Heap) (v:V) (ns:List Nat):Prop:=∃ b c s,v = .slice b 0 ns.length c s/\((c=2/\ns.length=1)\/(c=0/\s=1))/\G.get b = .cells (uP ns)/\H.n<=b/\b<G.n
section
variable {cp:RC->aq} {t:Nat->Option cW} {fuel:Nat} {H:Heap}
set_option maxRecDepth 4000 in
theorem DZ (T:aJ t) {b c s n:Nat} {all:List Wr} (hn:n=all.length) (hnb:n<10000) (e6':n<10000):
 ∀ (ws pre:List Wr) (ns:List Nat) (G:Heap) (vp:V),all=pre ++ ws->ns.length+ws.length<20000->ae H G->Ff H G vp ns->G.get b = .cells (bZ all)->b<G.n->(∀ bo l c s z,vp = .slice bo l c s z->b≠bo)->
 ∃ G' vp',ae H G'/\Ff H G' vp' (ns ++ ws.map (·.1))/\∀ (d:Nat) (kx:Nat->KE) (r:Nat) (e:Env) (v0 v1 v6 v11:V),ws.length<r->aa s000 e=v0->aa s001 e=v1->aa s006 e=v6->aa s011 e=v11->aa s012 e=vp->aa s071 e = .slice b 0 n c s->aa s072 e = .int 3 n->aa s073 e = .int 3 pre.length->
  ∀ x:R,(∀ e',aa s000 e'=v0->aa s001 e'=v1->aa s006 e'=v6->aa s011 e'=v11->aa s012 e'=vp'->kx 1 e' G'=x)->
  lr Cv fuel (aQ cp t fuel d) kx r e G=x:=by
 intro ws
 induction ws with
 | nil=>
  intro pre ns G vp hal hnl f hg hb hbn hbo
  refine ⟨G,vp,f,by simpa using hg,λd kx r e v0 v1 v6 v11 hr h0 h1 h6 h11 h12 h71 h72 h73 x hT=>?_⟩
  obtain ⟨r,rfl⟩:∃ q,r=q+1:=⟨r-1,by simp only [YM]at hr;omega⟩
  have hi:pre.length=n:=by rw [hn,hal,YW]
  have e1:¬ n<n:=by omega
  have e2:nn n:=by unfold nn;omega
  rw [ax]
  rw [hi]at h73
  simp only [go_sem,Cv,h72,h73,e1,e2]
  refine hT _ ?_ ?_ ?_ ?_ ?_<;>simp only [go_sem,h0,h1,h6,h11,h12]
 | cons w ws ih=>
  intro pre ns G vp hal hnl f hg hb hbn hbo
  simp only [YF]at hnl
  have hw:=f.wf
  have hlt:pre.length<n:=by rw [hn,hal];simp only [YD,YF];omega
  have e1:nn pre.length:=by unfold nn;omega
  have e2:nn n:=by unfold nn;omega
  have e3:pre.length<9223372036854775808:=by omega
  have e4:pre.length*2<=(bZ all).length:=by rw [dj,<- hn];omega
  have hd:(bZ all).drop (pre.length*2) = .int 3 w.1 :: .str w.2.1 w.2.2 :: bZ ws:=by rw [hal,py];rfl
  have e5:=by omega
  have e9:(pre.length+1)%18446744073709551616=pre.length+1:=by omega
  obtain ⟨bo,co,so,rfl,hcs,hbo2,hbo3,hbo4⟩:=hg
  have hbb:=hbo bo _ _ _ _ rfl
  have e8:G.n<G.n+1:=by omega
  have e10:¬ bo=G.n:=by omega
  have e11:¬ bo=G.n+1:=by omega
  have e12:bo<G.n+1+1:=by omega
  have e13:¬ b=G.n:=by omega
  have e14:¬ b=G.n+1:=by omega
  have e15:ns.length+1<=1073741824:=by omega
  have e16:(uP ns).length=ns.length:=by simp [uP]
  have hw1:((G.new (.cells [.int 3 0,.str 0 0])).put G.n (.cells [.int 3 w.1,.str w.2.1 w.2.2])).wf:=by simp only [Heap.bI,Heap.bg,hw]
  have f1:ae H (((G.new (.cells [.int 3 0,.str 0 0])).put G.n (.cells [.int 3 w.1,.str w.2.1 w.2.2])).new (.cells [.int 3 w.1])):=(ae.put (f.trans (ae.new hw)) f.n (by simp only [Heap.aO];omega)).trans (ae.new hw1)
  have hns:ns ++ (w :: ws).map (·.1)=(ns ++ [w.1]) ++ ws.map (·.1):=by simp
  rw [hns]
  have e20:=by omega
  rcases hcs with ⟨rfl,hl1⟩|⟨rfl,rfl⟩
  .have hone:∀ {id} {k},bq id (uP ns) k=k:=λ{id k}=>by
    obtain ⟨q,rfl⟩:∃ q,ns=[q]:=List.length_eq_one_iff.1 hl1
    rfl
   have e17:=Yc (by rw [e16];exact YA _)
   have e18:ns.length<=(uP ns).length:=by rw [e16];exact YA _
   have f2:=f1.trans (ae.new (x:=.cells (uP ns ++ [.int 3 w.1])) f1.wf)
   obtain ⟨G',vp',f',hg',hG'⟩:=ih (pre ++ [w]) (ns ++ [w.1]) _ (.slice (G.n+1+1) 0 (ns.length+1) 0 1) (by rw [hal];simp) (by simp only [YD,YF,YM];omega) f2 (by
    refine ⟨G.n+1+1,0,1,by simp,YE ⟨rfl,rfl⟩,?_,by omega,by simp only [Heap.aO,Heap.aT];omega⟩
    simp only [Heap.aH,Heap.bI,Heap.bg,Heap.aT,Heap.aO,hw,if_true,uP,WB,Yd,WA])
    (by
     have e30:¬ b=G.n+1+1:=by omega
     simp only [Heap.aF,Heap.aH,Heap.bI,Heap.bg,Heap.aT,Heap.aO,hw,e8,e13,e14,e30,if_false,hb]) (by simp only [Heap.aO,Heap.aT];omega) (λbo l c s z he=>by cases he;omega)
   refine ⟨G',vp',f',hg',λd kx r e v0 v1 v6 v11 hr h0 h1 h6 h11 h12 h71 h72 h73 x hT=>?_⟩
   obtain ⟨r,rfl⟩:∃ q,r=q+1:=⟨r-1,by omega⟩
   have e19:1<ns.length+1:=by omega
   have hgrow:∀ {id} {H} {new} {k},qZ id 1 1 new bo 0 ns.length 2 so H k=bq id new (if ns.length+1<=1073741824 then dU id H bo 0 (ns.length*1) λl=>bq id l (cA H (.cells (l ++ new)) λb' H=>k (.slice b' 0 (ns.length+1) 0 1) H) else no 0):=λ{id H new k}=>jA e19
   rw [ax]
   simp only [go_sem,↓dG,Cv,h12,h71,h72,h73,hlt,e1,e2,e3,e4,hd,e8,e9,e10,e11,hb,hw,hgrow,hbo2,e15,e17,e18,hone]
   refine hG' d kx r _ v0 v1 v6 v11 (by simp only [YF]at hr;omega) ?_ ?_ ?_ ?_ ?_ ?_ ?_ ?_ x hT<;>simp only [go_sem,h0,h1,h6,h11,h71,h72]
  .have f2:=(f1.put (x:=.dead) hbo3 (by simp only [Heap.aO,Heap.aT];omega)).trans (ae.new (x:=.cells (uP ns ++ [.int 3 w.1])) (by simp only [Heap.bI];exact f1.wf))
   obtain ⟨G',vp',f',hg',hG'⟩:=ih (pre ++ [w]) (ns ++ [w.1]) _ (.slice (G.n+1+1) 0 (ns.length+1) 0 1) (by rw [hal];simp) (by simp only [YD,YF,YM];omega) f2 (by
    refine ⟨G.n+1+1,0,1,by simp,YE ⟨rfl,rfl⟩,?_,by omega,by simp only [Heap.aO,Heap.aT];omega⟩
    simp only [Heap.aH,Heap.bI,Heap.bg,Heap.aT,Heap.aO,hw,if_true,uP,WB,Yd,WA])
    (by
     have e30:¬ b=G.n+1+1:=by omega
     have e31:=hbb
     simp only [Heap.aF,Heap.aH,Heap.bI,Heap.bg,Heap.aT,Heap.aO,hw,e8,e12,e13,e14,e30,e31,if_false,hb]) (by simp only [Heap.aO,Heap.aT];omega) (λbo l c s z he=>by cases he;omega)
   refine ⟨G',vp',f',hg',λd kx r e v0 v1 v6 v11 hr h0 h1 h6 h11 h12 h71 h72 h73 x hT=>?_⟩
   obtain ⟨r,rfl⟩:∃ q,r=q+1:=⟨r-1,by omega⟩
   rw [ax]
   simp only [go_sem,↓dG,Cv,h12,h71,h72,h73,hlt,e1,e2,e3,e4,hd,e8,e9,e10,e11,e12,hb,hw,hbo2,e15,e16]
   refine hG' d kx r _ v0 v1 v6 v11 (by simp only [YF]at hr;omega) ?_ ?_ ?_ ?_ ?_ ?_ ?_ ?_ x hT<;>simp only [go_sem,h0,h1,h6,h11,h71,h72]
end
end Go.Ev
end
section
namespace Go.Ev
def AD.eH (A:AD) (pk:List UInt8->List (List UInt8)) (a:Nat) (ws:List Wr):AD × Nat:=
 if A.off=true then (A,6) else if ws.length=0 then (A,0) else if 60<ws.length then (A,3) else if gW A.len [] ws=false then (A,2) else
  if A.fits (0 :: (outs (1-a) (pk (dD ws)) ++ ws).map (·.1))=true then A.runs [outs (1-a) (pk (dD ws)),[(0,tx (fJ (1-a) (pk (dD ws)).length))],ws] else (A,7)
theorem iC:∀ {ws} {len} {seen},gW len seen ws=true->(∀ w ∈ ws,qc len w/\w.1 ∉ seen)/\(ws.map (·.1)).Nodup
 | [],_,_,_=>⟨λ_ h=>(by cases h),List.nodup_nil⟩
 | w :: ws,len,seen,h=>by
  simp only [gW]at h
  split at h
  .obtain ⟨h1,h2⟩:=iC h
   grind
  simp_all
theorem xg {area} {ps} {w} (h:w ∈ outs area ps):∃ i,∃ h':i<ps.length,w=(1+area*72+i,tx ps[i]):=by
 simp only [outs,List.mem_mapIdx]at h
 grind
theorem nO:∀ {ws} {id} {k},bq id (bZ ws) k=k
 | [],_,_=>rfl
 | w :: ws,id,k=>by
  rw [yD,kR,kR,yO,yQ]
  exact nO
section
variable {cp:RC->aq} {t:Nat->Option cW} {fuel:Nat} {H:Heap}
theorem NY (T:iY t) {p b c s} {A} {O} {ns} (hD:cP H p A O) (ho:A.off=false) (hb:H.get b = .cells (uP ns)) (hbn:b<H.n) (hns:∀ v ∈ ns,v<A.len) (hnb:ns.length<1000000) (heb:A.es.length<1000000) (hfu:ns.length<fuel):
 ∃ H',(∀ (d) (k),aj (aQ cp t fuel (d+5)) (.func 250 []) [.ptr p 0,.slice b 0 ns.length c s] H k=k (.bool (A.fits ns)) H')/\ae H H':=by
 obtain ⟨D,h,h1,h2,h3,h4,rfl⟩:=hD
 obtain ⟨H',g1,g2,g3,g4,g5⟩:=JY (off:=0) T.toTDisk3 h.wf h.hp h.hg h.hm h.rH hb hbn (h4.trans ho) h.hl h.hr (by simp [uP]) (λi v hv=>by simp [uP,hv]) (λv hv=>by simp_all) hnb heb hfu
 refine ⟨H',λd k=>?_,g2,g3,g4,g5⟩
 rw [g1,h2]
 rfl
structure pg (A:AD) (a n:Nat):Prop where
 lo:145<=A.len
 hi:A.len<=1024
 es:A.es.length<100000
 us:A.us.length<50000
 head:A.read 0=tx (fJ a n)
 a:a<2
 n:n<=72
theorem At (T:aJ t) (hc:aY t) {pk} {p a} {A} {O} {v} {ws} (hD:cP H p A O) (hl:A.len<=1024) (hv:mi H v ws O) (hws:∀ w ∈ ws,w.1<18446744073709551616/\w.2.1<1000000) (hnb:ws.length<10000) (hfu:ws.length<fuel)
 (h:A.off=true\/ws.length=0\/60<ws.length\/gW A.len [] ws=false):
 ∃ H',(∀ (d) (k),aj (aQ cp t fuel (d+7)) (.func 166 []) [.ptr p 0,v] H k=k (.int 3 (A.eH pk a ws).2) H')/\ae H H'/\(A.eH pk a ws).1=A:=by
 have hw:=hD.wf
 have hr:∀ {d} {k},aj (aQ cp t fuel (d+3)) (.func 170 []) [.ptr p 0] H k=k (.int 3 (if A.off=true then 6 else 0)) H:=λ{d k}=>mL T hc hD
 obtain ⟨H1,hm,f1⟩:=wY (cp:=cp) T hc hD (by unfold nn;omega) hv hws (by omega) hfu
 have e1:ws.length<9223372036854775808:=by omega
 have n60:nn 60:=by unfold nn;omega
 have nl:nn ws.length:=by unfold nn;omega
 have hr2:∀ {d} {k},aj (aQ cp t fuel (d+1+1+1)) (.func 170 []) [.ptr p 0] H k=k (.int 3 (if A.off=true then 6 else 0)) H:=λ{d k}=>hr
 unfold AD.eH
 by_cases ho:A.off=true
 .refine ⟨H,λd k=>?_,ae.refl hw,by grind⟩
  rw [if_pos ho,aB T.U3 rfl rfl]
  rw [ho]at hr
  simp only [go_sem,UP,hr]
 .simp only [ho,if_false,false_or,Bool.false_eq_true]at h hr ⊢
  rcases hv with ⟨rfl,rfl⟩|⟨b,c,s,rfl,hb,hbn,hbO⟩
  .refine ⟨H,λd k=>?_,ae.refl hw,by simp⟩
   rw [aB T.U3 rfl rfl]
   simp only [go_sem,ZE,UP,hr]
  .by_cases h0:ws.length=0
   .refine ⟨H,λd k=>?_,ae.refl hw,by grind⟩
    rw [aB T.U3 rfl rfl]
    simp only [go_sem,ZE,UP,hr,h0]
   .simp only [h0,if_false,false_or]at h ⊢
    by_cases h6:60<ws.length
    .refine ⟨H,λd k=>?_,ae.refl hw,by grind⟩
     rw [aB T.U3 rfl rfl]
     simp only [go_sem,UP,hr,h0,e1,n60,nl,h6]
    .simp only [h6,if_false,false_or]at h ⊢
     refine ⟨H1,λd k=>?_,f1,by rw [if_pos h]⟩
     rw [aB T.U3 rfl rfl]
     have hm':=λ{d} {k}=>hm (d+4) k
     simp only [go_sem,UP,hr,h0,e1,n60,nl,h6,hm',h]
set_option maxRecDepth 8000 in
theorem tV (T:aJ t) (hc:aY t) {pk:List UInt8->List (List UInt8)} {unpk:List (List UInt8)->Option (List UInt8)} (F:cT pk unpk) (hp:t 123=some (.nat (fN pk)))
 {p a n:Nat} {A:AD} {O:Nat->Prop} {v:V} {ws:List Wr} (hD:cP H p A O) (C:pg A a n) (hv:mi H v ws O) (hws:∀ w ∈ ws,w.1<18446744073709551616/\w.2.1<1000000/\ur w.2) (hnb:ws.length<10000) (hfu:10000<fuel):
 ∃ H' O',(∀ (d:Nat) (k:K),aj (aQ cp t fuel (d+7)) (.func 166 []) [.ptr p 0,v] H k=k (.int 3 (A.eH pk a ws).2) H')/\Step H O H' O'/\cP H' p (A.eH pk a ws).1 O':=by
 by_cases hsm:A.off=true\/ws.length=0\/60<ws.length\/gW A.len [] ws=false
 .obtain ⟨H',g1,g2,g3⟩:=At (fuel:=fuel) T hc hD C.hi hv (λw hw=>⟨(hws w hw).1,(hws w hw).2.1⟩) hnb (by omega) hsm
  exact ⟨H',O,g1,g2.step,by rw [g3];exact hD.fresh g2⟩
 .have ho:A.off=false:=by
   cases h:A.off with
   | true=>exact absurd (YG h) hsm
   | false=>rfl
  have h0:¬ ws.length=0:=λh=>hsm (YE (YG h))
  have h6:¬ 60<ws.length:=λh=>hsm (YE (YE (YG h)))
  have hmay:gW A.len [] ws=true:=by
   cases h:gW A.len [] ws with
   | false=>exact absurd (YE (YE (YE h))) hsm
   | true=>rfl
  have hcm:A.eH pk a ws=if A.fits (0 :: (outs (1-a) (pk (dD ws)) ++ ws).map (·.1))=true then A.runs [outs (1-a) (pk (dD ws)),[(0,tx (fJ (1-a) (pk (dD ws)).length))],ws] else (A,7):=by
   unfold AD.eH
   rw [if_neg (by rw [ho];exact Bool.false_ne_true),if_neg h0,if_neg h6,if_neg (by rw [hmay];exact Bool.noConfusion)]
  obtain ⟨k1,k2,k3,k4,k5,k6,k7⟩:=C
  obtain ⟨hgood,_⟩:=iC hmay
  have hne:ws≠[]:=λh=>h0 (by rw [h];rfl)
  have hrec:qV ws:=⟨by omega,λw hw=>by have:=(hgood w hw).1.2.1;omega,λw hw=>(hgood w hw).1.2.2,λw hw=>(hws w hw).2.2⟩
  have htl:=hrec.text
  have hpkn:=F.num _ htl
  have hpkp:=F.pos (dD ws) (by omega)
  have hpkl:=F.len (dD ws) (by omega)
  have hw:=hD.wf
  have ha1:1-a<2:=by omega
  have hr:∀ {d} {k},aj (aQ cp t fuel (d+3)) (.func 170 []) [.ptr p 0] H k=k (.int 3 0) H:=λ{d k}=>by
   rw [mL T hc hD,ho]
   rfl
  obtain ⟨H1,hm1,f1⟩:=wY (cp:=cp) (fuel:=fuel) T hc hD (by unfold nn;omega) hv (λw hw=>⟨(hws w hw).1,(hws w hw).2.1⟩) (by omega) (by omega)
  rw [hmay]at hm1
  obtain ⟨H2,hh2,f2⟩:=yM (cp:=cp) (fuel:=fuel) T hc (hD.fresh f1) ho (by omega) k5 k6 k7 (by omega)
  have f12:=f1.trans f2
  obtain ⟨H3,vo,hr3,f3,g3⟩:=Ec (cp:=cp) (fuel:=fuel) T F hp f2.wf ha1 (hv.fresh f12) hrec hne (by omega)
  have f13:=f12.trans f3
  have hol:=uu (1-a) (pk (dD ws))
  have hmem:∀ w ∈ outs (1-a) (pk (dD ws)),w.1<145/\w.2.1=32:=λw hw=>by
   obtain ⟨i,hi,rfl⟩:=xg hw
   refine ⟨by show 1+(1-a)*72+i<145;omega,hpkl _ (List.getElem_mem hi)⟩
  generalize hfi:outs (1-a) (pk (dD ws))=first at hcm g3 hol hmem
  generalize hm:(pk (dD ws)).length=m at hcm hpkn hol
  have hfne:first≠[]:=λh=>by
   rw [h]at hol
   have hm0:(pk (dD ws)).length=0:=by rw [hm];exact hol.symm
   exact hpkp (YR hm0)
  have hm0:=λh=>hfne (YR (hol.trans h))
  obtain ⟨bo,rfl,hbo2,hbo3,hbo4⟩:∃ bo,vo = .slice bo 0 m 0 2/\H3.get bo = .cells (bZ first)/\H2.n<=bo/\bo<H3.n:=by
   rcases g3 with ⟨_,h⟩|⟨bo,h1,h2,h3,h4,h5⟩
   .exact absurd h hfne
   .exact ⟨bo,by rw [h1,hol],h3,h4,h5⟩
  have hboO:¬ O bo:=λh=>by have:=hD.lt bo h;have:=f12.n;omega
  obtain ⟨b,c,s,rfl,hb,hbn,hbO⟩:∃ b c s,v = .slice b 0 ws.length c s/\H.get b = .cells (bZ ws)/\b<H.n/\¬ O b:=by
   rcases hv with ⟨_,h⟩|h
   .exact absurd h hne
   .exact h
  have hv3:mi H (.slice b 0 ws.length c s) ws O:=YE ⟨b,c,s,rfl,hb,hbn,hbO⟩
  have hw3:=f3.wf
  have f4:ae H ((H3.new (.cells [.int 3 0])).new (.cells (bZ first ++ bZ ws))):=(f13.trans (ae.new hw3)).trans (ae.new (by rw [Heap.bg];exact hw3))
  generalize hH4:(H3.new (.cells [.int 3 0])).new (.cells (bZ first ++ bZ ws))=H4 at f4
  have f34:ae H3 H4:=by rw [<- hH4];exact (ae.new hw3).trans (ae.new (by rw [Heap.bg];exact hw3))
  have h4n:H4.n=H3.n+1+1:=by rw [<- hH4];simp only [Heap.aO]
  have h4a:H4.get H3.n = .cells [.int 3 0]:=by
   rw [<- hH4,Heap.aH (by rw [Heap.bg];exact hw3),if_neg (by rw [Heap.aO];omega),Heap.aH hw3,if_pos rfl]
  have h4b:H4.get (H3.n+1) = .cells (bZ (first ++ ws)):=by
   rw [<- hH4,Heap.aH (by rw [Heap.bg];exact hw3),if_pos (by rw [Heap.aO]),ei]
  have hpl4:Ff H3 H4 (.slice H3.n 0 1 2 0) [0]:=⟨H3.n,2,0,rfl,YG ⟨rfl,rfl⟩,h4a,YA _,by omega⟩
  obtain ⟨H5,vp,f35,⟨bp,cp5,sp5,rfl,_,hp2,hp3,hp4⟩,hL⟩:=DZ (cp:=cp) (fuel:=fuel) (c:=0) (s:=2) (all:=first ++ ws) T rfl (by rw [YD];omega) (by rw [YD];omega) (first ++ ws) [] [0] H4 (.slice H3.n 0 1 2 0) rfl (by rw [YD];simp only [YF,YM];omega) f34 hpl4 h4b (by omega) (λbo l c s z he=>by cases he;omega)
  have f5:=f13.trans f35
  have hnsl:([0] ++ (first ++ ws).map (λw:Wr=>w.1)).length=m+ws.length+1:=by simp only [YD,Yl,YF,YM];omega
  obtain ⟨H6,hf6,f56⟩:=NY (cp:=cp) (fuel:=fuel) (c:=cp5) (s:=sp5) (T.iP hc) (hD.fresh f5) ho hp2 hp4 (λx hx=>by
   simp only [YP,YN,YT,WB,List.mem_append,List.mem_map]at hx
   rcases hx with rfl|⟨w,hw,rfl⟩|⟨w,hw,rfl⟩
   .omega
   .have:=(hmem w hw).1;omega
   .exact (hgood w hw).1.2.1) (by rw [hnsl];omega) (by omega) (by rw [hnsl];omega)
  have f6:=f5.trans f56
  have f36:=f35.trans f56
  have hfirst:mi H3 (.slice bo 0 m 0 2) first O:=YE ⟨bo,0,2,by rw [hol],hbo2,hbo4,hboO⟩
  obtain ⟨H7,F1,ha7,f67,hA1⟩:=nQ (cp:=cp) (fuel:=fuel) T (p:=p) f6.wf (λx hx=>YC (hD.lt x hx) f6.n) (hfirst.fresh f36)
  have f7:=f6.trans f67
  obtain ⟨H8,hh8,f78⟩:=od (cp:=cp) (fuel:=fuel) T f7.wf ha1 hpkn (by omega)
  have f8:=f7.trans f78
  have hw8:=f8.wf
  have hhl:=mD (1-a) m
  rw [show tv (fJ (1-a) m) = .str 32 (enc (fJ (1-a) m)) by rw [tv,hhl]]at hh8
  have f89:ae H8 (H8.new (.cells [.int 3 0,.str 32 (enc (fJ (1-a) m))])):=ae.new hw8
  have h9b:(H8.new (.cells [.int 3 0,.str 32 (enc (fJ (1-a) m))])).get H8.n = .cells [.int 3 0,.str 32 (enc (fJ (1-a) m))]:=by rw [Heap.aH hw8,if_pos rfl]
  have h9n:(H8.new (.cells [.int 3 0,.str 32 (enc (fJ (1-a) m))])).n=H8.n+1:=Heap.aO
  generalize hH9:H8.new (.cells [.int 3 0,.str 32 (enc (fJ (1-a) m))])=H9 at f89 h9b h9n
  have f9:=f8.trans f89
  have hhd:mi H9 (.slice H8.n 0 1 2 0) [(0,tx (fJ (1-a) m))] O:=YE ⟨H8.n,2,0,rfl,by rw [h9b];simp only [bZ,WS,Wv,UU,tx,hhl,YW],by omega,λh=>by have:=hD.lt _ h;have:=f8.n;omega⟩
  obtain ⟨H10,F2,ha10,f910,hA2⟩:=nQ (cp:=cp) (fuel:=fuel) T (p:=p) f9.wf (λx hx=>YC (hD.lt x hx) f9.n) hhd
  have f10:=f9.trans f910
  obtain ⟨H11,F3,ha11,f1011,hA3⟩:=nQ (cp:=cp) (fuel:=fuel) T (p:=p) f10.wf (λx hx=>YC (hD.lt x hx) f10.n) (hv3.fresh f10)
  have f11:=f10.trans f1011
  have hw11:=f11.wf
  have f1112:ae H11 (H11.new (.cells [F1,F2,F3])):=ae.new hw11
  have hA1':=hA1.cD ((((f78.trans f89).trans f910).trans f1011).trans f1112).step
  have hA2':=hA2.cD (f1011.trans f1112).step
  have hA3':=hA3.cD f1112.step
  have f12':=f11.trans f1112
  have fin:A.fits (0 :: (first ++ ws).map (·.1))=true->∃ H' O',(∀ (d) (k),aj (aQ cp t fuel (d+5)) (.func 184 []) [.slice H11.n 0 3 4 0] (H11.new (.cells [F1,F2,F3])) k=k (.int 3 (A.runs [first,[(0,tx (fJ (1-a) m))],ws]).2) H')/\Step H O H' O'/\cP H' p (A.runs [first,[(0,tx (fJ (1-a) m))],ws]).1 O':=λhfit=>by
   obtain ⟨H',O',g1,g2,g3⟩:=xv (fs:=[(F1,first),(F2,[(0,tx (fJ (1-a) m))]),(F3,ws)]) T hc (hD.fresh f12') (by
    refine ⟨ho,λus hus=>?_,?_,λus hus w hw=>?_,F8 hfit λw hw=>?_⟩
    .grind
    .simp only [Yd,WA,WO,YC3,YD,YF,YM]
     omega
    .simp only [Yd,WA,YT,Wg,or_false]at hus
     rcases hus with rfl|rfl|rfl
     .have:=hmem w hw;exact ⟨by omega,this.2⟩
     .rw [YO.1 hw];exact ⟨by show 0<A.len;omega,hhl⟩
     .exact ⟨(hgood w hw).1.2.1,(hgood w hw).1.2.2⟩
    grind) (λf hf=>by
    simp only [YT,Wg,or_false]at hf
    rcases hf with rfl|rfl|rfl
    .exact ⟨hA1',by show first.length<10000;omega,by show first.length<fuel;omega⟩
    .exact ⟨hA2',by show 1<10000;omega,by show 1<fuel;omega⟩
    .exact ⟨hA3',by show ws.length<10000;omega,by show ws.length<fuel;omega⟩) (by rw [Heap.aH hw11,if_pos rfl];rfl) (by rw [Heap.aO];omega) (λh=>by have:=hD.lt _ h;have:=f11.n;omega) (by simp) (by simp only [YF,YM];omega)
   exact ⟨H',O',g1,f12'.step.trans g2,g3⟩
  obtain ⟨B10,B11,B12,v1,rfl,_⟩:=hA1
  obtain ⟨B20,B21,B22,v2,rfl,_⟩:=hA2
  obtain ⟨B30,B31,B32,v3,rfl,_⟩:=hA3
  clear hA1' hA2' hA3'
  have e1:ws.length<9223372036854775808:=by omega
  have n60:nn 60:=by unfold nn;omega
  have nl:nn ws.length:=by unfold nn;omega
  have e2:(1+(18446744073709551616-a))%18446744073709551616=1-a:=by omega
  have e3:m<9223372036854775808:=by omega
  have e4:bo≠H3.n:=by omega
  have e5:b≠H3.n:=by have:=f13.n;omega
  have e6:¬ m=0:=hm0
  have hb3:H3.get b = .cells (bZ ws):=(f13.same b hbn).trans hb
  have e7:ws.length*2<=(bZ ws).length:=by rw [dj];exact YA _
  have e8:(bZ ws).take (ws.length*2)=bZ ws:=Yc (by rw [dj];exact YA _)
  have e9:m*2<=(bZ first).length:=by rw [dj,hol];exact YA _
  have e10:(bZ first).take (m*2)=bZ first:=Yc (by rw [dj,hol];exact YA _)
  have e11:m<m+ws.length:=by omega
  have e12:m+ws.length<=1073741824:=by omega
  have e13:m+ws.length<9223372036854775808:=by omega
  have e14:m-0+1=m+1:=by omega
  have hgrow:∀ {id} {G} {new} {k},qZ id 2 ws.length new bo 0 m (m+1) 0 G k=bq id new (if m+ws.length<=1073741824 then dU id G bo 0 (m*2) λl=>bq id l (cA G (.cells (l ++ new)) λb' G=>k (.slice b' 0 (m+ws.length) 0 2) G) else no 0):=λ{id G new k}=>jA e11
  have hal:(first ++ ws).length=m+ws.length:=by rw [YD,hol]
  rw [hal]at hL
  have hm1':=λ{d} {k}=>hm1 (d+4) k
  have hh2':=λ{d} {k}=>hh2 (d+1) k
  have hr3':=λ{d} {k}=>hr3 (d+2) k
  have hlq:([0] ++ (first ++ ws).map (λw:Wr=>w.1)).length=first.length+ws.length+1:=by simp only [YD,Yl,YF,YM];omega
  rw [hlq]at hf6
  have hf6':=λ{d} {k}=>hf6 (d+1) k
  have ha7':=λ{d} {k}=>ha7 (d+5) k
  have hh8':=λ{d} {k}=>hh8 (d+3) k
  have ha10':=λ{d} {k}=>ha10 (d+5) k
  have ha11':=λ{d} {k}=>ha11 (d+5) k
  rw [hcm]
  by_cases hfit:A.fits (0 :: (first ++ ws).map (·.1))=true
  .obtain ⟨H',O',g1,g2,g3⟩:=fin hfit
   rw [if_pos hfit]
   refine ⟨H',O',λd k=>?_,g2,g3⟩
   have g1':=λ{d} {k}=>g1 (d+1) k
   have hfit':A.fits (0 :: (first ++ ws).map (·.1))=true:=hfit
   rw [aB T.U3 rfl rfl]
   simp only [go_sem,↓dG,ZE,UP,hr,h0,h6,e1,n60,nl,hm1',hh2',hr3',e2,e3,e6,hw3,hbo2,hb3,e4,e5,e7,e8,hgrow,nO,e9,e10,e12,e13,hH4,QX]
   refine hL _ _ fuel _ (.ptr p 0) (.slice b 0 ws.length c s) (.int 3 a) (.slice bo 0 m 0 2) (by omega) ?_ ?_ ?_ ?_ ?_ ?_ ?_ ?_ _ (λe' q0 q1 q6 q11 q12=>?_)
   .rfl
   .rfl
   .rfl
   .rfl
   .rfl
   .rfl
   .rfl
   .rfl
   .simp only [go_sem,q0,q1,q6,q11,q12,hf6',hfit',ha7',e2,e3,hh8',hw8,hH9,ha10',ha11',hw11,g1']
  .rw [if_neg hfit]
   have hfit':A.fits (0 :: (first ++ ws).map (·.1))=false:=by
    cases h:A.fits (0 :: (first ++ ws).map (·.1)) with
    | true=>exact absurd h hfit
    | false=>rfl
   refine ⟨H6,O,λd k=>?_,f6.step,hD.fresh f6⟩
   rw [aB T.U3 rfl rfl]
   simp only [go_sem,↓dG,ZE,UP,hr,h0,h6,e1,n60,nl,hm1',hh2',hr3',e2,e3,e6,hw3,hbo2,hb3,e4,e5,e7,e8,hgrow,nO,e9,e10,e12,e13,hH4,QX]
   refine hL _ _ fuel _ (.ptr p 0) (.slice b 0 ws.length c s) (.int 3 a) (.slice bo 0 m 0 2) (by omega) ?_ ?_ ?_ ?_ ?_ ?_ ?_ ?_ _ (λe' q0 q1 q6 q11 q12=>?_)
   .rfl
   .rfl
   .rfl
   .rfl
   .rfl
   .rfl
   .rfl
   .rfl
   .simp only [go_sem,q0,q12,hf6',hfit']
end
end Go.Ev
end
section
namespace Go.Ev
theorem wy:∀ (l) (i),enc l >>> (8*i)=enc (l.drop i)
 | l,0=>by simp
 | [],i+1=>by simp [enc]
 | x :: l,i+1=>by
  have hx:=x.toNat_lt
  rw [List.drop_succ_cons,<- wy l i,show 8*(i+1)=8+8*i by omega,YL4]
  congr 1
  simp only [enc]
  omega
theorem NN (l) (n) (h:n<=l.length):enc l%256 ^ n=enc (l.take n):=by
 have h1:=iv (l.take n) (l.drop n)
 have h2:=iw (l.take n)
 rw [List.take_append_drop,WV,QT h]at h1
 rw [WV,QT h]at h2
 rw [h1,Wl,Nat.add_mul_mod_self_left,Yz h2]
theorem jC {all a rest:List UInt8} {pos} (h:all.drop pos=a ++ rest):all.drop (pos+a.length)=rest:=by
 rw [<- List.drop_drop,h,YJ1]
section
variable {cp:RC->aq} {t:Nat->Option cW} {fuel:Nat} {H:Heap}
theorem K7 (T:aJ t) {d r b pos} {k} {all x rest} (hw:H.wf) (hr:H.get r=bO b all pos) (hrn:r<H.n) (hb:H.get b = .bytes all.length (enc all)) (hbr:b≠r) (hlen:all.length<1000000) (hd:all.drop pos=bE x.length ++ (x ++ rest)) (hfu:8<fuel):
 aj (aQ cp t fuel (d+3)) (.func 264 []) [.ptr r 0] H k=k (tv x) (H.put r (bO b all (pos+(bE x.length ++ x).length))):=by
 have hx:=congrArg Wo hd
 simp only [Wn,YD]at hx
 have hd2:=jC hd
 have hp1:1<=(bE x.length).length:=by simp [bE]
 have hpos:pos+(bE x.length).length+x.length<=all.length:=by omega
 have h1:∀ {k},aj (aQ cp t fuel (d+2)) (.func 192 []) [.ptr r 0] H k=k (.int 7 x.length) (H.put r (bO b all (pos+(bE x.length).length))):=λ{k}=>kg T hw hr hrn hb hbr hlen (by omega) hd hfu
 have h2:∀ {k},aj (aQ cp t fuel (d+2)) (.func 274 []) [.ptr r 0,.int 7 x.length] (H.put r (bO b all (pos+(bE x.length).length))) k=k (.slice b (pos+(bE x.length).length) x.length (x.length+1) 0) (H.put r (bO b all (pos+(bE x.length ++ x).length))):=λ{k}=>by
  rw [tK T (by rw [Heap.bI];omega) (by rw [Heap.aF hw hrn,if_pos rfl]) (by rw [Heap.aT];omega) hlen (by omega),Heap.iI,YD,Nat.add_assoc]
 have hb2:(H.put r (bO b all (pos+(bE x.length ++ x).length))).get b = .bytes all.length (enc all):=by rw [Heap.aF hw hrn,if_neg hbr];omega
 have h3:enc all >>> (8*(pos+(bE x.length).length))%256 ^ x.length=enc x:=by
  rw [wy,hd2,NN _ _ (by simp),List.take_left]
 generalize H.put r (bO b all (pos+(bE x.length ++ x).length))=G at h2 hb2 ⊢
 rw [show tv x = .str x.length (enc x) from rfl,aB T.abb rfl rfl]
 simp only [go_sem,aad,h1,h2,hb2,hpos,h3]
theorem NO (T:aJ t) {d r b} {k} {all} (hr:H.get r=bO b all all.length):
 aj (aQ cp t fuel (d+2)) (.func 266 []) [.ptr r 0] H k=k (.bool true) H:=by
 have h1:∀ {k},aj (aQ cp t fuel (d+1)) (.func 308 []) [.ptr r 0] H k=k (.bool true) H:=λ{k}=>Jb T hr
 have e1:=by omega
 unfold bO at hr
 rw [aB T.abc rfl rfl]
 simp only [go_sem,ZE,aae,h1,hr,Nat.sub_self]
set_option maxRecDepth 4000 in
theorem A7 (T:aJ t) {b r n:Nat} {text:List UInt8} {all:List Wr} (hfu:8<fuel) (hlen:text.length<1000000) (hn:n=all.length) (hnb:n<10000) (hb0:H.get b = .bytes text.length (enc text)) (hbn:b<H.n) (hall:∀ w ∈ all,w.1<=1024/\w.2.1<=1000/\ur w.2):
 ∀ (ws pre:List Wr) (G:Heap) (vo:V) (pos:Nat),all=pre ++ ws->ae H G->yo H G vo pre->text.drop pos=nG ws->pos<=text.length->G.get r=bO b text pos->H.n<=r->r<G.n->(∀ bo l c s z,vo = .slice bo l c s z->r≠bo)->
 ∃ G' vo',ae H G'/\yo H G' vo' all/\G'.get r=bO b text text.length/\r<G'.n/\∀ (d:Nat) (kx:Nat->KE) (rr:Nat) (e:Env),ws.length<rr->aa s004 e = .ptr r 0->aa s006 e=vo->aa s022 e = .int 7 n->aa s023 e = .int 7 pre.length->
  ∀ x:R,(∀ e',aa s004 e' = .ptr r 0->aa s006 e'=vo'->kx 1 e' G'=x)->
  lr Cw fuel (aQ cp t fuel (d+3)) kx rr e G=x:=by
 intro ws
 induction ws with
 | nil=>
  intro pre G vo pos hal f hg hd hpl hr hr1 hr2 hbo
  have hal':all=pre:=by rw [hal,YW]
  rw [<- hal']at hg
  have hpe:pos=text.length:=by
   have:=congrArg Wo hd
   simp only [nG,Wv,Wn,YM]at this
   omega
  rw [hpe]at hr
  refine ⟨G,vo,f,hg,hr,hr2,λd kx rr e hrr h4 h6 h22 h23 x hT=>?_⟩
  obtain ⟨rr,rfl⟩:∃ q,rr=q+1:=⟨rr-1,by simp only [YM]at hrr;omega⟩
  have hi:pre.length=n:=by rw [hn,hal']
  have e1:(dN (.lt 0 18446744073709551616) n n=true)=False:=by rw [yW (by omega) (by omega)];exact propext ⟨λh=>by omega,False.elim⟩
  rw [ax]
  rw [hi]at h23
  simp only [go_sem,Cw,h22,h23,e1]
  exact hT _ h4 h6
 | cons w ws ih=>
  intro pre G vo pos hal f hg hd hpl hr hr1 hr2 hbo
  have hw:=f.wf
  obtain ⟨hw1,hw2,hw3⟩:=hall w (by rw [hal];simp)
  have hlt:pre.length<n:=by rw [hn,hal];simp only [YD,YF];omega
  have e1:(dN (.lt 0 18446744073709551616) pre.length n=true)=True:=by rw [yW (by omega) (by omega)];exact eq_true hlt
  have e2:(dN (.gt 0 18446744073709551616) w.1 1024=true)=False:=by rw [mW (by omega) (by omega)];exact propext ⟨λh=>by omega,False.elim⟩
  have e3:w.1%18446744073709551616=w.1:=by omega
  have e9:(pre.length+1)%18446744073709551616=pre.length+1:=by omega
  have hbr:b≠r:=by omega
  have hbG:=(f.same b hbn).trans hb0
  have hd1:text.drop pos=bE w.1 ++ (bE (Fa w).length ++ (Fa w ++ nG ws)):=by
   rw [hd,kF]
   simp only [nG,WS,yg,WC]
  have h1:∀ {d} {k},aj (aQ cp t fuel (d+2)) (.func 192 []) [.ptr r 0] G k=k (.int 7 w.1) (G.put r (bO b text (pos+(bE w.1).length))):=λ{d k}=>kg T hw hr hr2 hbG hbr hlen (by omega) hd1 hfu
  have hd2:=jC hd1
  generalize hp2:pos+(bE w.1).length=pos2 at h1 hd2
  have hd3:=by
   rw [<- WC]at hd2
   exact jC hd2
  have h2:∀ {d} {k},aj (aQ cp t fuel (d+3)) (.func 264 []) [.ptr r 0] (G.put r (bO b text pos2)) k=k (.str w.2.1 w.2.2) (G.put r (bO b text (pos2+(bE (Fa w).length ++ Fa w).length))):=λ{d k}=>by
   rw [<- PU hw3,K7 T (by rw [Heap.bI];exact hw) (by rw [Heap.aF hw hr2,if_pos rfl]) (by rw [Heap.aT];exact hr2) (by rw [Heap.aF hw hr2,if_neg hbr];exact hbG) hbr hlen hd2 hfu,Heap.iI]
  have hpl3:pos2+(bE (Fa w).length ++ Fa w).length<=text.length:=by
   have:=congrArg Wo hd2
   simp only [Wn,YD]at this ⊢
   have hp1:1<=(bE (Fa w).length).length:=by simp [bE]
   omega
  generalize pos2+(bE (Fa w).length ++ Fa w).length=pos3 at h2 hd3 hpl3
  have fG3:ae H (G.put r (bO b text pos3)):=ae.put f hr1 hr2
  have g3w:=fG3.wf
  have g3n:(G.put r (bO b text pos3)).n=G.n:=Heap.aT
  have g3r:(G.put r (bO b text pos3)).get r=bO b text pos3:=by rw [Heap.aF hw hr2,if_pos rfl]
  have e20:2<=2:=YA _
  have e21:=by omega
  rcases hg with ⟨rfl,ho⟩|⟨bo,rfl,ho,hbo2,hbo3,hbo4⟩
  .subst ho
   generalize hG3:G.put r (bO b text pos3)=G3 at h2 fG3 g3w g3n g3r
   have f2:ae H ((G3.new (.cells [.int 3 w.1,.str w.2.1 w.2.2])).new (.cells [.int 3 w.1,.str w.2.1 w.2.2])):=(fG3.trans (ae.new g3w)).trans (ae.new (by rw [Heap.bg];exact g3w))
   have gn:((G3.new (.cells [.int 3 w.1,.str w.2.1 w.2.2])).new (.cells [.int 3 w.1,.str w.2.1 w.2.2])).n=G.n+1+1:=by simp only [Heap.aO,g3n]
   obtain ⟨G',vo',f',hg',hr',hr2',hG'⟩:=ih [w] _ (.slice (G.n+1) 0 1 0 2) pos3 (by rw [hal];simp) f2 (by
    refine YE ⟨G.n+1,rfl,by simp,?_,by have:=f.n;omega,by rw [gn];omega⟩
    rw [Heap.aH (by rw [Heap.bg];exact g3w),if_pos (by rw [Heap.aO,g3n])]
    rfl) hd3 hpl3 (by rw [Heap.aH (by rw [Heap.bg];exact g3w),if_neg (by rw [Heap.aO,g3n];omega),Heap.aH g3w,if_neg (by rw [g3n];omega)];exact g3r) hr1 (by rw [gn];omega) (λbo l c s z he=>by cases he;omega)
   refine ⟨G',vo',f',hg',hr',hr2',λd kx rr e hrr h4 h6 h22 h23 x hT=>?_⟩
   obtain ⟨rr,rfl⟩:∃ q,rr=q+1:=⟨rr-1,by omega⟩
   have h1':=λ{k}=>h1 (d:=d+1) (k:=k)
   rw [ax]
   simp only [YM,WG]at h23 e1 e9
   simp only [go_sem,↓dG,Cw,h4,h6,h22,h23,e1,e2,e3,h1',h2,g3w,g3n,e20]
   refine hG' d kx rr _ (by simp only [YF]at hrr;omega) ?_ ?_ ?_ ?_ x hT<;>simp only [go_sem,h4,h22]
  .have hrb:¬ bo=r:=λh=>hbo bo _ _ _ _ rfl h.symm
   have g3o:(G.put r (bO b text pos3)).get bo = .cells (bZ pre):=by rw [Heap.aF hw hr2,if_neg hrb];exact hbo2
   generalize hG3:G.put r (bO b text pos3)=G3 at h2 fG3 g3w g3n g3r g3o
   have e4:¬ bo=G.n:=by omega
   have e5:bo<G.n+1:=by omega
   have e6:pre.length+1<=1073741824:=by omega
   have e7:=dj pre
   have w1:((G3.new (.cells [.int 3 w.1,.str w.2.1 w.2.2])).put bo .dead).wf:=by simp only [Heap.bI,Heap.bg,g3w]
   have n1:((G3.new (.cells [.int 3 w.1,.str w.2.1 w.2.2])).put bo .dead).n=G.n+1:=by simp only [Heap.aO,Heap.aT,g3n]
   have f2:ae H (((G3.new (.cells [.int 3 w.1,.str w.2.1 w.2.2])).put bo .dead).new (.cells (bZ pre ++ [.int 3 w.1,.str w.2.1 w.2.2]))):=(ae.put (fG3.trans (ae.new g3w)) hbo3 (by rw [Heap.aO,g3n];omega)).trans (ae.new w1)
   have gn:(((G3.new (.cells [.int 3 w.1,.str w.2.1 w.2.2])).put bo .dead).new (.cells (bZ pre ++ [.int 3 w.1,.str w.2.1 w.2.2]))).n=G.n+1+1:=by rw [Heap.aO,n1]
   obtain ⟨G',vo',f',hg',hr',hr2',hG'⟩:=ih (pre ++ [w]) _ (.slice (G.n+1) 0 (pre.length+1) 0 2) pos3 (by rw [hal];simp) f2 (by
    refine YE ⟨G.n+1,by simp,by simp,?_,by omega,by omega⟩
    rw [Heap.aH w1,if_pos n1.symm,ei]
    rfl) hd3 hpl3 (by rw [Heap.aH w1,if_neg (by omega),Heap.aF (by rw [Heap.bg];exact g3w) (by rw [Heap.aO,g3n];omega),if_neg (λh=>hrb h.symm),Heap.aH g3w,if_neg (by omega)];exact g3r) hr1 (by omega) (λbo l c s z he=>by cases he;omega)
   refine ⟨G',vo',f',hg',hr',hr2',λd kx rr e hrr h4 h6 h22 h23 x hT=>?_⟩
   obtain ⟨rr,rfl⟩:∃ q,rr=q+1:=⟨rr-1,by omega⟩
   have h1':=λ{k}=>h1 (d:=d+1) (k:=k)
   rw [ax]
   simp only [go_sem,↓dG,Cw,h4,h6,h22,h23,e1,e2,e3,e9,h1',h2,g3w,g3n,g3o,e20,e4,e5,e6,e7]
   refine hG' d kx rr _ (by simp only [YF]at hrr;omega) ?_ ?_ ?_ ?_ x hT<;>simp only [go_sem,h4,h22,YD]
theorem A6 (T:aJ t) {ws} (hw:H.wf) (hr:qV ws) (h0:ws≠[]) (hat:∀ w ∈ ws,w.1<=1024) (hfu:100<fuel):
 ∃ H' vo,(∀ (d) (k),aj (aQ cp t fuel (d+4)) (.func 180 []) [tv (dD ws)] H k=k (.cE [vo,.bool true]) H')/\ae H H'/\yo H H' vo ws:=by
 have htl:=hr.text
 have hnum:=hr.num
 have hn0:=List.length_pos_iff.2 h0
 have hnr:∀ {d} {k},aj (aQ cp t fuel (d+1)) (.func 188 []) [tv (dD ws)] H k=k (.ptr (H.n+1) 0) ((H.new (.bytes (dD ws).length (enc (dD ws)))).new (bO H.n (dD ws) 0)):=λ{d k}=>kf T hw (by omega)
 have hd1:(dD ws).drop 0=bE ws.length ++ nG ws:=rfl
 have hd2:=jC hd1
 have hpl:0+(bE ws.length).length<=(dD ws).length:=by simp only [dD,YD];omega
 generalize dD ws=text at htl hnr hd1 hd2 hpl ⊢
 have hw1:(H.new (.bytes text.length (enc text))).wf:=by rw [Heap.bg];omega
 have fb:ae H (H.new (.bytes text.length (enc text))):=ae.new hw
 have hbn:(H.new (.bytes text.length (enc text))).n=H.n+1:=Heap.aO
 have hbb:(H.new (.bytes text.length (enc text))).get H.n = .bytes text.length (enc text):=by rw [Heap.aH hw,if_pos rfl]
 generalize H.new (.bytes text.length (enc text))=Hb at hnr hw1 fb hbn hbb
 have fG:ae Hb (Hb.new (bO H.n text 0)):=ae.new hw1
 have gr:(Hb.new (bO H.n text 0)).get (H.n+1)=bO H.n text 0:=by rw [Heap.aH hw1,if_pos hbn.symm]
 have gb:(Hb.new (bO H.n text 0)).get H.n = .bytes text.length (enc text):=by rw [Heap.aH hw1,if_neg (by omega)];omega
 have gn:(Hb.new (bO H.n text 0)).n=H.n+1+1:=by rw [Heap.aO,hbn]
 generalize Hb.new (bO H.n text 0)=G at hnr fG gr gb gn
 have gw:=fG.wf
 have hrn:H.n+1<G.n:=by omega
 have hne:H.n≠H.n+1:=by omega
 have hn1:∀ {d} {k},aj (aQ cp t fuel (d+2)) (.func 192 []) [.ptr (H.n+1) 0] G k=k (.int 7 ws.length) (G.put (H.n+1) (bO H.n text (0+(bE ws.length).length))):=λ{d k}=>kg T gw gr hrn gb hne (by omega) (by omega) hd1 (by omega)
 generalize 0+(bE ws.length).length=pos at hn1 hd2 hpl
 have fG2:ae Hb (G.put (H.n+1) (bO H.n text pos)):=ae.put fG (by omega) hrn
 obtain ⟨G',vo',f',hg',hr',hr2',hL⟩:=A7 (fuel:=fuel) T (by omega) (by omega) rfl (by omega) hbb (by omega) (λw hw=>⟨hat w hw,by have:=hr.len w hw;omega,hr.ok w hw⟩) ws [] (G.put (H.n+1) (bO H.n text pos)) .aw pos rfl fG2 (YG ⟨rfl,rfl⟩) hd2 hpl (by rw [Heap.aF gw hrn,if_pos rfl]) (by omega) (by rw [Heap.aT];omega) (λbo l c s z he=>by cases he)
 have he:∀ {d} {k},aj (aQ cp t fuel (d+2)) (.func 266 []) [.ptr (H.n+1) 0] G' k=k (.bool true) G':=λ{d k}=>NO T hr'
 refine ⟨G',vo',λd k=>?_,fb.trans f',?_⟩
 .have e1:(dN (.lt 0 18446744073709551616) ws.length 1=true)=False:=by rw [yW (by omega) (by omega)];exact propext ⟨λh=>by omega,False.elim⟩
  have e2:(dN (.gt 0 18446744073709551616) ws.length 60=true)=False:=by rw [mW (by omega) (by omega)];exact propext ⟨λh=>by omega,False.elim⟩
  rw [aB T.k90 rfl rfl]
  simp only [go_sem,c90,hnr,hn1,e1,e2]
  refine hL d _ fuel _ (by omega) ?_ ?_ ?_ ?_ _ (λe' g4 g6=>?_)
  .rfl
  .rfl
  .rfl
  .rfl
  .simp only [go_sem,g4,g6,he]
 .rcases hg' with h|⟨bo,q1,q2,q3,q4,q5⟩
  .exact YG h
  .exact YE ⟨bo,q1,q2,q3,by omega,q5⟩
end
end Go.Ev
end
section
namespace Go.Ev
theorem Y7 {a b} (h:tv a=tv b):a=b:=by
 simp only [tv,V.str.injEq]at h
 rw [<- fq a,<- fq b,h.1,h.2]
theorem wX:∀ {a b:List (List UInt8)},a.map tv=b.map tv->a=b
 | [],[],_=>rfl
 | [],_ :: _,h=>by cases h
 | _ :: _,[],h=>by cases h
 | x :: a,y :: b,h=>by
  simp only [Yd,List.cons.injEq]at h
  rw [Y7 h.1,wX h.2]
def La:Option (List UInt8)->V
 | some t=>.cE [tv t,.int 3 0]
 | none=>.cE [.str 0 0,.int 3 4]
open Classical in
noncomputable def fD (unpk:List (List UInt8)->Option (List UInt8)) (args:List V) (H:Heap) (k:K):R:=
 match args with
 | [.slice b 0 n _ _]=>if h:∃ ls:List (List UInt8),H.get b = .cells (ls.map tv)/\ls.length=n/\n<=1000/\(∀ x ∈ ls,x.length<=1000) then k (La (unpk h.choose)) H else no 0
 | _=>no 0
open Classical in
theorem uo {unpk} {b n c s} {H} {k} {ls} (hb:H.get b = .cells (ls.map tv)) (hn:ls.length=n) (h1:n<=1000) (h2:∀ x ∈ ls,x.length<=1000):
 fD unpk [.slice b 0 n c s] H k=k (La (unpk ls)) H:=by
 have hex:∃ ls:List (List UInt8),H.get b = .cells (ls.map tv)/\ls.length=n/\n<=1000/\(∀ x ∈ ls,x.length<=1000):=⟨ls,hb,hn,h1,h2⟩
 have hs:=hex.choose_spec
 have he:=by
  have:=hs.1.symm.trans hb
  simp only [ee.cells.injEq]at this
  exact wX this
 show (if h:_ then _ else _)=_
 rw [dif_pos hex,he]
theorem GG {unpk} {b n c s} {H} {k} {ls} {t} (hb:H.get b = .cells (ls.map tv)) (hn:ls.length=n) (h1:n<=1000) (h2:∀ x ∈ ls,x.length<=1000) (hu:unpk ls=some t):
 fD unpk [.slice b 0 n c s] H k=k (.cE [tv t,.int 3 0]) H:=by
 rw [uo hb hn h1 h2,hu]
 rfl
def Lq (H G:Heap) (v:V) (ss:List Tx):Prop:=(v = .aw/\ss=[])\/∃ b,v = .slice b 0 ss.length 0 1/\ss≠[]/\G.get b = .cells (ss.map sv)/\H.n<=b/\b<G.n
section
variable {cp:RC->aq} {t:Nat->Option cW} {fuel:Nat} {H:Heap}
theorem C9 (T:aJ t) (hc:aY t) {p:Nat} {A:AD} {O:Nat->Prop} (hD:cP H p A O) (ho:A.off=false) (hl:145<A.len) (hl2:A.len<=1024) (he:A.es.length<100000) (hu:A.us.length<50000) (hroom:(find A.es 0).isSome=true\/A.es.length<A.room) (hfu:10<fuel):
 ∃ H' O',(∀ (d:Nat) (k:K),aj (aQ cp t fuel (d+7)) (.func 162 []) [.ptr p 0] H k=k (.int 3 (A.runs [[(0,tx (fJ 0 0))]]).2) H')/\Step H O H' O'/\cP H' p (A.runs [[(0,tx (fJ 0 0))]]).1 O':=by
 have hw:=hD.wf
 have hr:∀ {d} {k},aj (aQ cp t fuel (d+3)) (.func 170 []) [.ptr p 0] H k=k (.int 3 0) H:=λ{d k}=>by
  rw [mL T hc hD,ho]
  rfl
 have hL:∀ {d} {k},aj (aQ cp t fuel (d+1)) (.func 92 []) [.ptr p 0] H k=k (.int 3 A.len) H:=λ{d k}=>rN (T.iP hc) hD
 obtain ⟨H8,hh8,f8⟩:=od (cp:=cp) (fuel:=fuel) T (a:=0) (n:=0) hw (by omega) (by omega) (by omega)
 have hw8:=f8.wf
 have hhl:=mD 0 0
 rw [show tv (fJ 0 0) = .str 32 (enc (fJ 0 0)) by rfl]at hh8
 have f89:ae H8 (H8.new (.cells [.int 3 0,.str 32 (enc (fJ 0 0))])):=ae.new hw8
 have h9b:(H8.new (.cells [.int 3 0,.str 32 (enc (fJ 0 0))])).get H8.n = .cells [.int 3 0,.str 32 (enc (fJ 0 0))]:=by rw [Heap.aH hw8,if_pos rfl]
 have h9n:(H8.new (.cells [.int 3 0,.str 32 (enc (fJ 0 0))])).n=H8.n+1:=Heap.aO
 generalize hH9:H8.new (.cells [.int 3 0,.str 32 (enc (fJ 0 0))])=H9 at f89 h9b h9n
 have f9:=f8.trans f89
 have hhd:mi H9 (.slice H8.n 0 1 2 0) [(0,tx (fJ 0 0))] O:=YE ⟨H8.n,2,0,rfl,by rw [h9b];rfl,by omega,λh=>by have:=hD.lt _ h;have:=f8.n;omega⟩
 obtain ⟨H10,F2,ha10,f910,hA2⟩:=nQ (cp:=cp) (fuel:=fuel) T (p:=p) f9.wf (λx hx=>YC (hD.lt x hx) f9.n) hhd
 have f10:=f9.trans f910
 have hw10:=f10.wf
 have f11:ae H10 (H10.new (.cells [F2])):=ae.new hw10
 have hA2':=hA2.cD f11.step
 have f12:=f10.trans f11
 obtain ⟨H',O',g1,g2,g3⟩:=xv (cp:=cp) (c:=2) (s:=0) (fs:=[(F2,[(0,tx (fJ 0 0))])]) T hc (hD.fresh f12) (by
  refine ⟨ho,λus hus=>?_,?_,λus hus w hw=>?_,?_⟩
  .simp only [Yd,WA,YT,Wg,or_false]at hus
   subst hus
   simp only [YF,YM];omega
  .simp only [Yd,WA,WO,YC3,YD,YF,YM]
   omega
  .simp only [Yd,WA,YT,Wg,or_false]at hus
   subst hus
   rw [YO.1 hw];exact ⟨by omega,hhl⟩
  .exact ⟨hroom,trivial⟩) (λf hf=>by
  simp only [YT,Wg,or_false]at hf
  subst hf
  exact ⟨hA2',by simp,by show 1<fuel;omega⟩) (by rw [Heap.aH hw10,if_pos rfl];rfl) (by rw [Heap.aO];omega) (λh=>by have:=hD.lt _ h;have:=f10.n;omega) (by simp) (by simp only [YF,YM];omega)
 obtain ⟨B20,B21,B22,v2,rfl,_⟩:=hA2
 have n145:nn 145:=by unfold nn;omega
 have nl:nn A.len:=by unfold nn;omega
 have e1:¬ A.len<=145:=by omega
 refine ⟨H',O',λd k=>?_,f12.step.trans g2,g3⟩
 have hh8':=λ{d} {k}=>hh8 (d+3) k
 have ha10':=λ{d} {k}=>ha10 (d+5) k
 have g1':=λ{d} {k}=>g1 (d+1) k
 simp only [Yd,WA,YF,YM]at g1'
 rw [aB T.k81 rfl rfl]
 simp only [go_sem,c81,hr,hL,n145,nl,e1,hh8',hw8,hH9,ha10',hw10,g1']
set_option maxRecDepth 4000 in
theorem Bw (T:aJ t) (hc:aY t) {p a n:Nat} {A:AD} {O:Nat->Prop} (hD:cP H p A O) (ho:A.off=false) (hl:145<=A.len) (ha:a<2) (hn:n<=72):
 ∀ (m i:Nat) (G:Heap) (vo:V),i+m=n->ae H G->Lq H G vo ((WT i).map λj=>A.read (1+a*72+j))->
 ∃ G' vo',ae H G'/\Lq H G' vo' ((WT n).map λj=>A.read (1+a*72+j))/\∀ (d:Nat) (kx:Nat->KE) (rr:Nat) (e:Env),m<rr->aa s000 e = .ptr p 0->aa s004 e = .int 3 a->aa s007 e=vo->aa s040 e = .int 3 n->aa s041 e = .int 3 i->
  ∀ x:R,(∀ e',aa s000 e' = .ptr p 0->aa s007 e'=vo'->kx 1 e' G'=x)->
  lr Ci fuel (aQ cp t fuel (d+3)) kx rr e G=x:=by
 intro m
 induction m with
 | zero=>
  intro i G vo hi f hg
  have hi':i=n:=by omega
  subst hi'
  refine ⟨G,vo,f,hg,λd kx rr e hrr h0 h4 h7 h40 h41 x hT=>?_⟩
  obtain ⟨rr,rfl⟩:∃ q,rr=q+1:=⟨rr-1,by omega⟩
  have e1:¬ i<i:=by omega
  have e2:nn i:=by unfold nn;omega
  rw [ax]
  simp only [go_sem,Ci,h40,h41,e1,e2]
  exact hT _ h0 h7
 | succ m ih=>
  intro i G vo hi f hg
  have hlt:i<n:=by omega
  have e1:nn i:=by unfold nn;omega
  have e2:nn n:=by unfold nn;omega
  have e9:(i+1)%18446744073709551616=i+1:=by omega
  have hat:∀ {d} {k} {G},aj (aQ cp t fuel (d+1)) (.func 176 []) [.int 3 a,.int 3 i] G k=k (.int 3 (1+a*72+i)) G:=λ{d k G}=>B9 T ha (by omega)
  obtain ⟨G2,hr2,f2⟩:=oK (cp:=cp) (fuel:=fuel) (T.iP hc) (hD.fresh f) ho (a:=1+a*72+i) (by omega)
  have fG2:=f.trans f2
  have gw:=fG2.wf
  have hrs:(WT (i+1)).map (λj=>A.read (1+a*72+j))=(WT i).map (λj=>A.read (1+a*72+j)) ++ [A.read (1+a*72+i)]:=by rw [List.range_succ,WB];rfl
  have hrl:((WT i).map λj=>A.read (1+a*72+j)).length=i:=by simp
  have e21:=by omega
  generalize hgn:(WT i).map (λj=>A.read (1+a*72+j))=ss at hg hrs hrl
  generalize A.read (1+a*72+i)=q at hr2 hrs
  obtain ⟨ql,qn⟩:=q
  simp only [sv]at hr2
  rcases hg with ⟨rfl,hs0⟩|⟨bo,rfl,hs0,hbo2,hbo3,hbo4⟩
  .subst hs0
   have hi0:i=0:=by rw [<- hrl];rfl
   have f3:ae H ((G2.new (.cells [.str ql qn])).new (.cells [.str ql qn])):=(fG2.trans (ae.new gw)).trans (ae.new (by rw [Heap.bg];exact gw))
   have gn:((G2.new (.cells [.str ql qn])).new (.cells [.str ql qn])).n=G2.n+1+1:=by simp only [Heap.aO]
   obtain ⟨G',vo',f',hg',hG'⟩:=ih (i+1) _ (.slice (G2.n+1) 0 1 0 1) (by omega) f3 (by
    rw [hrs]
    refine YE ⟨G2.n+1,rfl,by simp,?_,by have:=fG2.n;omega,by rw [gn];omega⟩
    rw [Heap.aH (by rw [Heap.bg];exact gw),if_pos (by rw [Heap.aO])]
    rfl)
   refine ⟨G',vo',f',hg',λd kx rr e hrr h0 h4 h7 h40 h41 x hT=>?_⟩
   obtain ⟨rr,rfl⟩:∃ q,rr=q+1:=⟨rr-1,by omega⟩
   rw [ax]
   simp only [go_sem,↓dG,Ci,h0,h4,h7,h40,h41,hlt,e1,e2,e9,hat,hr2,gw]
   refine hG' d kx rr _ (by omega) ?_ ?_ ?_ ?_ ?_ x hT<;>simp only [go_sem,h0,h4,h40]
  .have hboG:=YC hbo4 f2.n
   have hbo2':=(f2.same bo hbo4).trans hbo2
   have e4:¬ bo=G2.n:=by omega
   have e5:bo<G2.n+1:=by omega
   have e6:i+1<=1073741824:=by omega
   have w1:((G2.new (.cells [.str ql qn])).put bo .dead).wf:=by simp only [Heap.bI,Heap.bg,gw]
   have n1:((G2.new (.cells [.str ql qn])).put bo .dead).n=G2.n+1:=by simp only [Heap.aO,Heap.aT]
   have f3:ae H (((G2.new (.cells [.str ql qn])).put bo .dead).new (.cells (ss.map sv ++ [.str ql qn]))):=(ae.put (fG2.trans (ae.new gw)) hbo3 (by rw [Heap.aO];omega)).trans (ae.new w1)
   have gn:(((G2.new (.cells [.str ql qn])).put bo .dead).new (.cells (ss.map sv ++ [.str ql qn]))).n=G2.n+1+1:=by rw [Heap.aO,n1]
   obtain ⟨G',vo',f',hg',hG'⟩:=ih (i+1) _ (.slice (G2.n+1) 0 (i+1) 0 1) (by omega) f3 (by
    rw [hrs]
    refine YE ⟨G2.n+1,by simp [hrl],by simp,?_,by omega,by omega⟩
    rw [Heap.aH w1,if_pos n1.symm,WB]
    rfl)
   refine ⟨G',vo',f',hg',λd kx rr e hrr h0 h4 h7 h40 h41 x hT=>?_⟩
   obtain ⟨rr,rfl⟩:∃ q,rr=q+1:=⟨rr-1,by omega⟩
   rw [ax]
   simp only [go_sem,↓dG,Ci,h0,h4,h7,h40,h41,hlt,e1,e2,e9,hat,hr2,gw,e4,e5,e6,hrl,hbo2']
   refine hG' d kx rr _ (by omega) ?_ ?_ ?_ ?_ ?_ x hT<;>simp only [go_sem,h0,h4,h40]
end
end Go.Ev
end
section
namespace Go.Ev
def AD.recover (A:AD) (n:Nat) (ws:List Wr):AD × Nat:=if A.off=true then (A,6) else if n=0 then (A,0) else A.runs [ws]
structure qk (A:AD) (pk:List UInt8->List (List UInt8)) (a n:Nat) (ws:List Wr):Prop where
 can:pg A a n
 record:n≠0->n=(pk (dD ws)).length/\(∀ i (h:i<(pk (dD ws)).length),A.read (1+a*72+i)=tx (pk (dD ws))[i])/\qV ws/\ws≠[]/\gW A.len [] ws=true/\roomy A.room A.es ws
section
variable {cp:RC->aq} {t:Nat->Option cW} {fuel:Nat} {H:Heap}
theorem Bv (T:aJ t) (hc:aY t) {pk:List UInt8->List (List UInt8)} {unpk:List (List UInt8)->Option (List UInt8)} (F:cT pk unpk) (hu:t 89=some (.nat (fD unpk)))
 {p a n:Nat} {A:AD} {O:Nat->Prop} {ws:List Wr} (hD:cP H p A O) (C:qk A pk a n ws) (hfu:10000<fuel):
 ∃ H' O',(∀ (d:Nat) (k:K),aj (aQ cp t fuel (d+7)) (.func 84 []) [.ptr p 0] H k=k (.int 3 (A.recover n ws).2) H')/\Step H O H' O'/\cP H' p (A.recover n ws).1 O':=by
 have hw:=hD.wf
 have hr:∀ {d} {k},aj (aQ cp t fuel (d+3)) (.func 170 []) [.ptr p 0] H k=k (.int 3 (if A.off=true then 6 else 0)) H:=λ{d k}=>mL T hc hD
 by_cases ho:A.off=true
 .refine ⟨H,O,λd k=>?_,Step.refl hw,?_⟩
  .rw [if_pos ho]at hr
   rw [aB T.k42 rfl rfl]
   simp only [go_sem,c42,hr,AD.recover,ho]
  .simp only [AD.recover,if_pos ho];exact hD
 rw [if_neg ho]at hr
 have ho':A.off=false:=by
  cases h:A.off with
  | true=>exact absurd h ho
  | false=>rfl
 obtain ⟨⟨k1,k2,k3,k4,k5,k6,k7⟩,k8⟩:=C
 obtain ⟨H2,hh2,f2⟩:=yM (cp:=cp) (fuel:=fuel) T hc hD ho' (by omega) k5 k6 k7 (by omega)
 have hh2':=λ{d} {k}=>hh2 (d+1) k
 by_cases h0:n=0
 .refine ⟨H2,O,λd k=>?_,f2.step,?_⟩
  .have n0:nn n:=by unfold nn;omega
   rw [aB T.k42 rfl rfl]
   simp only [go_sem,c42,hr,hh2',AD.recover,ho,h0]
  .simp only [AD.recover,if_neg ho,if_pos h0];exact hD.fresh f2
 obtain ⟨j1,j2,j3,j4,j5,j6⟩:=k8 h0
 have hrc:A.recover n ws=A.runs [ws]:=by simp only [AD.recover,if_neg ho,if_neg h0]
 rw [hrc]
 have htl:=j3.text
 have hnum:=j3.num
 obtain ⟨hgood,_⟩:=iC j5
 have hback:=F.back (dD ws) (by omega)
 have hpkl:=F.len (dD ws) (by omega)
 obtain ⟨H3,vo,f3,g3,hL⟩:=Bw T hc (hD.fresh f2) ho' k1 k6 k7 n 0 H2 .aw (by omega) (ae.refl f2.wf) (YG ⟨rfl,rfl⟩)
 have f23:=f2.trans f3
 have hread:(WT n).map (λj=>A.read (1+a*72+j))=(pk (dD ws)).map tx:=by
  refine List.ext_getElem (by simp [j1]) λi h1 h2=>?_
  simp only [List.getElem_map,List.getElem_range]
  exact j2 i (by simpa using h2)
 rw [hread]at g3
 obtain ⟨b,rfl,hb2,hb3,hb4⟩:∃ b,vo = .slice b 0 n 0 1/\H3.get b = .cells ((pk (dD ws)).map tv)/\H2.n<=b/\b<H3.n:=by
  rcases g3 with ⟨_,h⟩|⟨b,q1,q2,q3,q4,q5⟩
  .have:=congrArg Wo h
   simp only [Yl,YM]at this
   omega
  .refine ⟨b,by rw [q1,Yl,<- j1],?_,q4,q5⟩
   rw [q3,List.map_map]
   rfl
 have hun:∀ {d} {k},aj (aQ cp t fuel (d+1)) (.func 178 []) [.slice b 0 n 0 1] H3 k=k (.cE [tv (dD ws),.int 3 0]) H3:=λ{d k}=>by
  rw [nT hu rfl rfl]
  exact GG hb2 j1.symm (by omega) (λx hx=>by have:=hpkl x hx;omega) hback
 obtain ⟨H4,vw,hjw,f4,g4⟩:=A6 (cp:=cp) (fuel:=fuel) T f3.wf j3 j4 (λw hw=>by have:=(hgood w hw).1.2.1;omega) (by omega)
 have f24:=f23.trans f4
 have hWs:mi H4 vw ws O:=by
  rcases g4 with ⟨_,h⟩|⟨bo,q1,q2,q3,q4,q5⟩
  .exact absurd h j4
  .exact YE ⟨bo,_,_,q1,q3,q5,λh=>by have:=hD.lt _ h;have:=f23.n;omega⟩
 obtain ⟨H5,hm5,f5⟩:=wY (cp:=cp) (fuel:=fuel) T hc (hD.fresh f24) (by unfold nn;omega) hWs (λw hw=>by have:=(hgood w hw).1.2;omega) (by omega) (by omega)
 rw [j5]at hm5
 have f25:=f24.trans f5
 obtain ⟨H6,F1,ha6,f6,hA⟩:=nQ (cp:=cp) (fuel:=fuel) T (p:=p) f5.wf (λx hx=>YC (hD.lt x hx) f25.n) (hWs.fresh f5)
 have f26:=f25.trans f6
 have hw6:=f6.wf
 have f67:ae H6 (H6.new (.cells [F1])):=ae.new hw6
 have hA':=hA.cD f67.step
 have f27:=f26.trans f67
 obtain ⟨H',O',g1,g2,g3⟩:=xv (cp:=cp) (c:=2) (s:=0) (fs:=[(F1,ws)]) T hc (hD.fresh f27) (by
  refine ⟨ho',λus hus=>?_,?_,λus hus w hw=>?_,?_⟩
  .simp only [Yd,WA,YT,Wg,or_false]at hus
   subst hus
   omega
  .simp only [Yd,WA,WO,YC3,YD,YM]
   omega
  .simp only [Yd,WA,YT,Wg,or_false]at hus
   subst hus
   exact ⟨(hgood w hw).1.2.1,(hgood w hw).1.2.2⟩
  .simp only [Yd,WA,WO,YC3,YW]
   exact j6) (λf hf=>by
  simp only [YT,Wg,or_false]at hf
  subst hf
  exact ⟨hA',by show ws.length<10000;omega,by show ws.length<fuel;omega⟩) (by rw [Heap.aH hw6,if_pos rfl];rfl) (by rw [Heap.aO];omega) (λh=>by have:=hD.lt _ h;have:=f26.n;omega) (by simp) (by simp only [YF,YM];omega)
 obtain ⟨B20,B21,B22,v2,rfl,_⟩:=hA
 clear hA'
 have n0:nn n:=by unfold nn;omega
 refine ⟨H',O',λd k=>?_,f27.step.trans g2,g3⟩
 have g1':=λ{d} {k}=>g1 (d+1) k
 have hjw':=λ{d} {k}=>hjw (d+2) k
 have hm5':=λ{d} {k}=>hm5 (d+4) k
 have ha6':=λ{d} {k}=>ha6 (d+5) k
 have hun':=λ{d} {k}=>hun (d:=d+5) (k:=k)
 simp only [Yd,WA,YF,YM]at g1'
 rw [aB T.k42 rfl rfl]
 simp only [go_sem,c42,hr,hh2',h0]
 refine hL _ _ fuel _ (by omega) ?_ ?_ ?_ ?_ ?_ _ (λe' q0 q7=>?_)
 .rfl
 .rfl
 .rfl
 .rfl
 .rfl
 .simp only [go_sem,q0,q7,hun',hjw',hm5',ha6',hw6,g1']
end
end Go.Ev
end

