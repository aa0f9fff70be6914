/- LB: a part of the evaluator,of its logic,or of the laws' walk in it. -/
import Derived.Test.YtjjidjlaijpnoaaGreatDoorLA
set_option linter.unusedVariables false
set_option linter.unusedSimpArgs false
set_option linter.unusedSectionVars false
section
namespace Go.Ev
def rdBlk (b:Nat) (all:List UInt8) (pos:Nat):Blk := .cells [.slice b pos (all.length-pos) 0 1, .bool false]
def fbe (l:List UInt8):Nat:=l.foldl (fun a b=>a * 256+b.toNat) 0
theorem foldl_be:∀ (m n:Nat) (s:List UInt8),n<256 ^ m→(be m n s).foldl (fun a b=>a * 256+b.toNat) 0=s.foldl (fun a b=>a * 256+b.toNat) n
 | 0,n,s,h=>by simp at h;subst h;rfl
 | m+1,n,s,h=>by
  simp only [be]
  split
  ·rename_i h0;rw [h0]
  ·rw [foldl_be m (n / 256) _ (by rw [Nat.div_lt_iff_lt_mul (by omega),← Nat.pow_succ];exact h)]
   simp only [List.foldl_cons,toNat_ofNat (show n % 256<256 by omega)]
   congr 1
   omega
theorem fbe_be {n:Nat} (h:n<18446744073709551616):fbe (be 8 n [])=n:=by
 have h8:(256:Nat) ^ 8=18446744073709551616:=by decide
 unfold fbe
 rw [foldl_be 8 n [] (by omega)]
 rfl
theorem fbe_snoc (l:List UInt8) (b:UInt8):fbe (l ++ [b])=fbe l * 256+b.toNat:=by simp only [fbe,List.foldl_append,List.foldl_cons,List.foldl_nil]
theorem foldl_bd:∀ (l:List UInt8) (a:Nat),l.foldl (fun a b=>a * 256+b.toNat) a < (a+1) * 256 ^ l.length
 | [],a=>by simp
 | b :: l,a=>by
  have h:=foldl_bd l (a * 256+b.toNat)
  have hb:=b.toNat_lt
  simp only [List.foldl_cons,List.length_cons,Nat.pow_succ]
  refine Nat.lt_of_lt_of_le h ?_
  rw [Nat.mul_comm (256 ^ l.length),← Nat.mul_assoc]
  exact Nat.mul_le_mul_right _ (by omega)
theorem fbe_lt (l:List UInt8):fbe l<256 ^ l.length:=by
 have:=foldl_bd l 0
 simpa [fbe] using this
theorem be_head:∀ (m n:Nat) (s r:List UInt8) (d:UInt8),n≠0→n<256 ^ m→be m n s=d :: r→d≠0
 | 0,n,s,r,d,h,h1,_=>by simp at h1;omega
 | m+1,n,s,r,d,h,h1,h2=>by
  simp only [be,if_neg h] at h2
  by_cases h3:n / 256=0
  ·have h4:be m (n / 256) (UInt8.ofNat (n % 256) :: s)=UInt8.ofNat (n % 256) :: s:=by
    cases m with
    | zero=>rfl
    | succ m=>simp only [be,if_pos h3]
   rw [h4] at h2
   simp only [List.cons.injEq] at h2
   rw [← h2.1]
   intro h5
   have:=congrArg UInt8.toNat h5
   rw [toNat_ofNat (by omega)] at this
   have h6:(0:UInt8).toNat=0:=rfl
   omega
  ·exact be_head m (n / 256) _ r d h3 (by rw [Nat.div_lt_iff_lt_mul (by omega),← Nat.pow_succ];exact h1) h2
theorem enc_at:∀ (l:List UInt8) (i:Nat) (h:i<l.length),enc l >>> (8 * i) &&& 255=l[i].toNat
 | x :: l,0,_=>by
  have hx:=x.toNat_lt
  rw [Nat.mul_zero,Nat.shiftRight_zero]
  simp only [enc]
  have h:=Nat.and_two_pow_sub_one_eq_mod (x.toNat+256 * enc l) 8
  simp only [show (2:Nat) ^ 8-1=255 by rfl,show (2:Nat) ^ 8=256 by rfl] at h
  rw [h]
  simp only [List.getElem_cons_zero]
  omega
 | x :: l,i+1,h=>by
  have hx:=x.toNat_lt
  have h1:enc (x :: l) >>> (8 * (i+1))=enc l >>> (8 * i):=by
   rw [show 8 * (i+1)=8+8 * i by omega,Nat.shiftRight_add]
   congr 1
   rw [Nat.shiftRight_eq_div_pow]
   simp only [enc]
   omega
  rw [h1,enc_at l i (by simpa using h)]
  simp
section
variable {cp:RC→CodeE} {t:Nat→Option FnE} {fuel:Nat} {H:Heap}
set_option maxRecDepth 4000 in
theorem take_call (T:TCode t) {d r b pos n:Nat} {k:K} {all:List UInt8} (hw:H.wf) (hr:H.get r=rdBlk b all pos) (hrn:r<H.n) (hlen:all.length<1000000) (hn:pos+n≤all.length) :
  callP (evP cp t fuel (d+1)) (.func 144 []) [.ptr r 0, .int 7 n] H k=k (.slice b pos n (n+1) 0) (H.put r (rdBlk b all (pos+n))):=by
 have e1:all.length-pos<9223372036854775808:=by omega
 have e2:(all.length-pos) % 18446744073709551616=all.length-pos:=by omega
 have e3:(evCF (.gt 0 18446744073709551616) n (all.length-pos)=true)=False:=by rw [gt_un (by omega) (by omega)];exact propext ⟨fun h=>by omega,False.elim⟩
 have e4:n<9223372036854775808:=by omega
 have e5:n≤all.length-pos:=by omega
 have e6:all.length-pos-n=all.length-(pos+n):=by omega
 unfold rdBlk at hr ⊢
 rw [call_entry T.k72 rfl rfl]
 by_cases hz:n=0
 ·subst hz
  simp only [go_sem,↓op_app,reduceCtorEq,Nat.reduceAdd,Nat.reduceSub,Nat.reduceMul,Nat.reduceEqDiff,Nat.reduceLT,Nat.reduceDiv,Nat.reduceMod,Nat.reduceLeDiff,↓reduceIte,c72,hr,hw,hrn,e1,e2,e3,e4,e5,e6,Nat.sub_zero]
 ·simp only [go_sem,↓op_app,reduceCtorEq,Nat.reduceAdd,Nat.reduceSub,Nat.reduceMul,Nat.reduceEqDiff,Nat.reduceLT,Nat.reduceDiv,Nat.reduceMod,Nat.reduceLeDiff,↓reduceIte,c72,hr,hw,hrn,e1,e2,e3,e4,e5,e6,hz,Nat.sub_zero]
theorem num_loop (T:TCode t) {b c z p:Nat} {all s:List UInt8} {G:Heap} (hb:G.get b = .bytes all.length (enc all)) (hs:∀ j (h:j<s.length),∃ h':p+j<all.length,all[p+j]=s[j]) (hq:s.length≤8) :
  ∀ (m i:Nat),i+m=s.length → ∀ (d:Nat) (kx:Nat→KE) (r:Nat) (e:Env) (v0 v3 v4:V),m<r→pget ⟨.i0, .i0, .i0⟩ e=v0→pget ⟨.i0, .i0, .i6⟩ e=v3→pget ⟨.i0, .i0, .i5⟩ e = .int 7 (fbe (s.take i))→pget ⟨.i0, .i3, .i5⟩ e = .slice b p s.length c z→pget ⟨.i0, .i3, .i6⟩ e = .int 3 s.length→pget ⟨.i0, .i3, .i7⟩ e = .int 3 i →
   ∀ x:R,(∀ e',pget ⟨.i0, .i0, .i0⟩ e'=v0→pget ⟨.i0, .i0, .i6⟩ e'=v3→pget ⟨.i0, .i0, .i5⟩ e' = .int 7 (fbe s)→kx 1 e' G=x) →
   evL c50l0 fuel (evP cp t fuel d) kx r e G=x:=by
 intro m
 induction m with
 | zero=>
  intro i hi d kx r e v0 v3 v4 hr h0 h6 h5 h35 h36 h37 x hT
  obtain ⟨r,rfl⟩:∃ q,r=q+1:=⟨r-1,by omega⟩
  have hi':i=s.length:=by omega
  subst hi'
  have e1:¬ s.length<s.length:=by omega
  have e2:nn s.length:=by unfold nn;omega
  rw [evL_succ]
  simp only [go_sem,↓op_app,reduceCtorEq,Nat.reduceAdd,Nat.reduceSub,Nat.reduceMul,Nat.reduceEqDiff,Nat.reduceLT,Nat.reduceDiv,Nat.reduceMod,Nat.reduceLeDiff,↓reduceIte,c50l0,h0,h6,h5,h35,h36,h37,e1,e2]
  rw [List.take_length] at h5
  exact hT _ (by simp only [go_sem,reduceCtorEq,↓reduceIte,h0]) (by simp only [go_sem,reduceCtorEq,↓reduceIte,h6]) (by simp only [go_sem,reduceCtorEq,↓reduceIte,h5])
 | succ m ih=>
  intro i hi d kx r e v0 v3 v4 hr h0 h6 h5 h35 h36 h37 x hT
  obtain ⟨r,rfl⟩:∃ q,r=q+1:=⟨r-1,by omega⟩
  have hlt:i<s.length:=by omega
  obtain ⟨hp,hv⟩:=hs i hlt
  have e1:nn i:=by unfold nn;omega
  have e2:nn s.length:=by unfold nn;omega
  have e3:i<9223372036854775808:=by omega
  have e4:enc all >>> (8 * (p+i)) &&& 255=s[i].toNat:=by rw [enc_at all _ hp,hv]
  have hbt:=(s[i]).toNat_lt
  have e5:s[i].toNat % 18446744073709551616=s[i].toNat:=by omega
  have e9:(i+1) % 18446744073709551616=i+1:=by omega
  have htk:s.take (i+1)=s.take i ++ [s[i]]:=by rw [List.take_add_one,List.getElem?_eq_getElem hlt];rfl
  have hlt2:fbe (s.take (i+1))<18446744073709551616:=by
   have h1:=fbe_lt (s.take (i+1))
   have h2:(256:Nat) ^ (s.take (i+1)).length≤256 ^ 8:=Nat.pow_le_pow_right (by omega) (by rw [List.length_take];omega)
   have h8:(256:Nat) ^ 8=18446744073709551616:=by decide
   omega
  rw [htk,fbe_snoc] at hlt2
  have e6:(fbe (s.take i) <<< 8) % 18446744073709551616 ||| s[i].toNat=fbe (s.take (i+1)):=by
   have q1:fbe (s.take i) <<< 8=fbe (s.take i) * 256:=Nat.shiftLeft_eq _ _
   have q2:(fbe (s.take i) * 256) % 18446744073709551616=fbe (s.take i) * 256:=Nat.mod_eq_of_lt (Nat.lt_of_le_of_lt (Nat.le_add_right _ _) hlt2)
   have q3:fbe (s.take i) <<< 8+s[i].toNat=fbe (s.take i) <<< 8 ||| s[i].toNat:=Nat.shiftLeft_add_eq_or_of_lt (i:=8) (show s[i].toNat<2 ^ 8 from hbt) _
   rw [q1,q2,htk,fbe_snoc,← q1]
   exact q3.symm
  rw [evL_succ]
  simp only [go_sem,↓op_app,reduceCtorEq,Nat.reduceAdd,Nat.reduceSub,Nat.reduceMul,Nat.reduceEqDiff,Nat.reduceLT,Nat.reduceDiv,Nat.reduceMod,Nat.reduceLeDiff,↓reduceIte,c50l0,h0,h6,h5,h35,h36,h37,hlt,e1,e2,e3,e4,e5,e6,e9,hb,hp]
  refine ih (i+1) (by omega) d kx r _ v0 v3 v4 (by omega) ?_ ?_ ?_ ?_ ?_ ?_ x hT <;> simp only [go_sem,reduceCtorEq,↓reduceIte,h0,h6,h35,h36,h37]
set_option maxRecDepth 4000 in
theorem num_call (T:TCode t) {d r b pos n:Nat} {k:K} {all rest:List UInt8} (hw:H.wf) (hr:H.get r=rdBlk b all pos) (hrn:r<H.n) (hb:H.get b = .bytes all.length (enc all)) (hbr:b≠r) (hlen:all.length<1000000) (hn:n<18446744073709551616) (hd:all.drop pos=pnum n ++ rest) (hfu:8<fuel) :
  callP (evP cp t fuel (d+2)) (.func 100 []) [.ptr r 0] H k=k (.int 7 n) (H.put r (rdBlk b all (pos+(pnum n).length))):=by
 have hle:=be_length 8 n []
 simp only [List.length_nil,Nat.add_zero] at hle
 have hpn:pnum n=UInt8.ofNat (be 8 n []).length :: be 8 n []:=rfl
 have hfb:=fbe_be hn
 have h8:(256:Nat) ^ 8=18446744073709551616:=by decide
 have hhd:∀ d r,be 8 n []=d :: r→d≠0:=fun d r h=>be_head 8 n [] r d (fun h0=>by rw [h0] at h;simp [be] at h) (by omega) h
 rw [hpn] at hd ⊢
 generalize be 8 n []=s at hle hfb hhd hd ⊢
 have hdl:=congrArg List.length hd
 simp only [List.length_drop,List.length_append,List.length_cons] at hdl ⊢
 have hget:∀ j (h:j<s.length),∃ h':pos+1+j<all.length,all[pos+1+j]=s[j]:=fun j h=>by
  refine ⟨by omega, ?_⟩
  have h1:(all.drop pos)[1+j]? = (UInt8.ofNat s.length :: s ++ rest)[1+j]?:=by rw [hd]
  rw [List.getElem?_drop,Nat.add_comm 1 j,show pos+(j+1)=pos+1+j by omega,List.getElem?_eq_getElem (by omega)] at h1
  simp only [List.cons_append,List.getElem?_cons_succ] at h1
  rw [List.getElem?_append_left h,List.getElem?_eq_getElem h] at h1
  exact Option.some.inj h1
 have hp0:pos<all.length:=by omega
 have hg0:all[pos]=UInt8.ofNat s.length:=by
  have h1:(all.drop pos)[0]? = (UInt8.ofNat s.length :: s ++ rest)[0]?:=by rw [hd]
  rw [List.getElem?_drop,Nat.add_zero,List.getElem?_eq_getElem hp0] at h1
  exact Option.some.inj h1
 have e0:enc all >>> (8 * pos) &&& 255=s.length:=by rw [enc_at all _ hp0,hg0,toNat_ofNat (by omega)]
 have e1:(evCF (.gt 0 256) s.length 8=true)=False:=by
  rw [cf_gt]
  exact propext ⟨fun h=>by omega,False.elim⟩
 have e2:s.length % 18446744073709551616=s.length:=by omega
 have e3:s.length<9223372036854775808:=by omega
 have e4:nn s.length:=by unfold nn;omega
 have n0:nn 0:=by unfold nn;omega
 have t1:∀ {k:K},callP (evP cp t fuel (d+1)) (.func 145 [.ptr r 0]) [.int 7 1] H k=k (.slice b pos 1 2 0) (H.put r (rdBlk b all (pos+1))):=fun {k}=>by
  rw [call_bound (f:=145) (g:=144) rfl rfl rfl]
  exact take_call T hw hr hrn hlen (by omega)
 have hw1:(H.put r (rdBlk b all (pos+1))).wf:=by rw [Heap.wf_put];exact hw
 have t2:∀ {k:K},callP (evP cp t fuel (d+1)) (.func 145 [.ptr r 0]) [.int 7 s.length] (H.put r (rdBlk b all (pos+1))) k=k (.slice b (pos+1) s.length (s.length+1) 0) (H.put r (rdBlk b all (pos+(s.length+1)))):=fun {k}=>by
  rw [call_bound (f:=145) (g:=144) rfl rfl rfl]
  rw [List.cons_append,List.nil_append,take_call T hw1 (by rw [Heap.get_put hw hrn,if_pos rfl]) (by rw [Heap.n_put];exact hrn) hlen (by omega),Heap.put_put,show pos+1+s.length=pos+(s.length+1) by omega]
 have hL:=num_loop (cp:=cp) (fuel:=fuel) (t:=t) (c:=s.length+1) (z:=0) (p:=pos+1) (G:=H.put r (rdBlk b all (pos+(s.length+1)))) T (by rw [Heap.get_put hw hrn,if_neg hbr];exact hb) hget hle s.length 0 (by omega) (d+1)
 rw [call_entry T.k50 rfl rfl]
 simp only [go_sem,↓op_app,reduceCtorEq,Nat.reduceAdd,Nat.reduceSub,Nat.reduceMul,Nat.reduceEqDiff,Nat.reduceLT,Nat.reduceDiv,Nat.reduceMod,Nat.reduceLeDiff,↓reduceIte,c50,t1,t2,hw,hrn,hb,hbr,e0,e1,e2,e3,hp0]
 refine hL _ fuel _ (.ptr r 0) (.slice b (pos+1) s.length (s.length+1) 0) .nils (by omega) ?_ ?_ ?_ ?_ ?_ ?_ _ (fun e' g0 g6 g5 => ?_)
 ·simp only [go_sem,reduceCtorEq,↓reduceIte]
 ·simp only [go_sem,reduceCtorEq,↓reduceIte]
 ·simp only [go_sem,↓op_app,reduceCtorEq,Nat.reduceAdd,Nat.reduceSub,Nat.reduceMul,Nat.reduceEqDiff,Nat.reduceLT,Nat.reduceDiv,Nat.reduceMod,Nat.reduceLeDiff,↓reduceIte,List.take_zero];rfl
 ·simp only [go_sem,reduceCtorEq,↓reduceIte]
 ·simp only [go_sem,reduceCtorEq,↓reduceIte]
 ·simp only [go_sem,reduceCtorEq,↓reduceIte]
 ·cases hs:s with
  | nil=>
   have e5:¬ 0<0:=by omega
   rw [hs] at g5 g6 hfb
   simp only [List.length_nil] at g6
   simp only [go_sem,↓op_app,reduceCtorEq,Nat.reduceAdd,Nat.reduceSub,Nat.reduceMul,Nat.reduceEqDiff,Nat.reduceLT,Nat.reduceDiv,Nat.reduceMod,Nat.reduceLeDiff,↓reduceIte,g0,g5,g6,n0,e5,hfb]
  | cons x s'=>
   have hx:=hhd x s' hs
   have hxt:¬ x.toNat=0:=fun h=>hx (UInt8.toNat_inj.1 h)
   obtain ⟨h1,h2⟩:=hget 0 (by rw [hs];simp)
   have e6:enc all >>> (8 * (pos+1)) &&& 255=x.toNat:=by
    have:=enc_at all (pos+1) (by omega)
    rw [this]
    simp only [Nat.add_zero] at h2
    rw [h2]
    simp [hs]
   have e7:0<s'.length+1:=by omega
   have e8:nn (s'.length+1):=by rw [hs] at e4;exact e4
   have e9:s'.length+1<9223372036854775808:=by rw [hs] at e3;exact e3
   have e10:pos+1<all.length:=by omega
   rw [hs] at g5 g6 hfb
   simp only [List.length_cons] at g6
   simp only [go_sem,↓op_app,reduceCtorEq,Nat.reduceAdd,Nat.reduceSub,Nat.reduceMul,Nat.reduceEqDiff,Nat.reduceLT,Nat.reduceDiv,Nat.reduceMod,Nat.reduceLeDiff,↓reduceIte,g0,g5,g6,n0,hfb,e6,e7,e8,e9,e10,hb,hbr,hw,hrn,hxt]
end
end Go.Ev
end
section
namespace Go.Ev
def tx (l:List UInt8):Tx:=(l.length,enc l)
theorem sv_tx (l:List UInt8):sv (tx l)=tv l:=rfl
theorem enc_zeros:∀ n:Nat,enc (List.replicate n 0)=0
 | 0=>rfl
 | n+1=>by rw [List.replicate_succ];simp only [enc,enc_zeros n];rfl
def hdr (a n:Nat):List UInt8:=pnum (a+1) ++ (pnum n ++ List.replicate (32-(pnum (a+1) ++ pnum n).length) 0)
theorem hdr_length (a n:Nat):(hdr a n).length=32:=by
 have h1:=pnum_length (a+1)
 have h2:=pnum_length n
 simp only [hdr,List.length_append,List.length_replicate]
 omega
section
variable {cp:RC→CodeE} {t:Nat→Option FnE} {fuel:Nat} {H:Heap}
theorem putText_call (T:TCode t) {a b:List UInt8} (hw:H.wf) (ha:a.length+b.length<4000000000000000000) (hfu:8<fuel) :
  ∃ H',(∀ (d:Nat) (k:K),callP (evP cp t fuel (d+3)) (.func 118 []) [tv a,tv b] H k=k (tv (a ++ pnum b.length ++ b)) H')∧Fresh H H':=by
 obtain ⟨H',h1,f1⟩:=putNum_call (cp:=cp) (fuel:=fuel) T (a:=a) (n:=b.length) hw (by omega) (by omega) hfu
 have hpl:=pnum_length b.length
 have e1:b.length<9223372036854775808:=by omega
 have e2:b.length % 18446744073709551616=b.length:=by omega
 have e3:(a ++ pnum b.length).length+b.length<9223372036854775808:=by rw [List.length_append];omega
 refine ⟨H',fun d k => ?_,f1⟩
 rw [← tv_append]
 rw [show tv a = .str a.length (enc a) from rfl] at h1 ⊢
 rw [show tv (a ++ pnum b.length) = .str (a ++ pnum b.length).length (enc (a ++ pnum b.length)) from rfl] at h1
 rw [show tv b = .str b.length (enc b) from rfl]
 generalize a ++ pnum b.length=s at h1 e3 ⊢
 rw [call_entry T.k59 rfl rfl]
 simp only [go_sem,↓op_app,reduceCtorEq,Nat.reduceAdd,Nat.reduceSub,Nat.reduceMul,Nat.reduceEqDiff,Nat.reduceLT,Nat.reduceDiv,Nat.reduceMod,Nat.reduceLeDiff,↓reduceIte,c59,h1,e1,e2,e3]
theorem at_call (T:TCode t) {a i d:Nat} {k:K} (ha:a<2) (hi:i<1000000) :
  callP (evP cp t fuel (d+1)) (.func 90 []) [.int 3 a, .int 3 i] H k=k (.int 3 (1+a * 72+i)) H:=by
 have e1:a * 72 % 18446744073709551616=a * 72:=by omega
 have e2:(1+a * 72) % 18446744073709551616=1+a * 72:=by omega
 have e3:(1+a * 72+i) % 18446744073709551616=1+a * 72+i:=by omega
 rw [call_entry T.k45 rfl rfl]
 simp only [go_sem,↓op_app,reduceCtorEq,Nat.reduceAdd,Nat.reduceSub,Nat.reduceMul,Nat.reduceEqDiff,Nat.reduceLT,Nat.reduceDiv,Nat.reduceMod,Nat.reduceLeDiff,↓reduceIte,c45,e1,e2,e3]
theorem header_call (T:TCode t) {a n:Nat} (hw:H.wf) (ha:a<2) (hn:n≤72) (hfu:8<fuel) :
  ∃ H',(∀ (d:Nat) (k:K),callP (evP cp t fuel (d+3)) (.func 84 []) [.int 3 a, .int 3 n] H k=k (tv (hdr a n)) H')∧Fresh H H':=by
 obtain ⟨H1,h1,f1⟩:=putNum_call (cp:=cp) (fuel:=fuel) T (a:=[]) (n:=a+1) hw (by simp) (by omega) hfu
 obtain ⟨H2,h2,f2⟩:=putNum_call (cp:=cp) (fuel:=fuel) T (a:=pnum (a+1)) (n:=n) f1.wf (by have:=pnum_length (a+1);omega) (by omega) hfu
 have l1:=pnum_length (a+1)
 have l2:=pnum_length n
 refine ⟨H2.new (.bytes (32-(pnum (a+1) ++ pnum n).length) 0),fun d k => ?_,(f1.trans f2).trans (Fresh.new f2.wf)⟩
 have hh:hdr a n=(pnum (a+1) ++ pnum n) ++ List.replicate (32-(pnum (a+1) ++ pnum n).length) 0:=by simp [hdr]
 rw [hh,← tv_append,enc_zeros,Nat.zero_mul,Nat.add_zero,List.length_replicate]
 rw [List.nil_append] at h1
 rw [show tv ([]:List UInt8) = .str 0 0 from rfl] at h1
 have hs:(pnum (a+1) ++ pnum n).length≤18:=by rw [List.length_append];omega
 rw [show tv (pnum (a+1) ++ pnum n) = .str (pnum (a+1) ++ pnum n).length (enc (pnum (a+1) ++ pnum n)) from rfl] at h2
 generalize pnum (a+1) ++ pnum n=s at h2 hs ⊢
 have e1:a % 18446744073709551616=a:=by omega
 have e2:(a+1) % 18446744073709551616=a+1:=by omega
 have e3:n % 18446744073709551616=n:=by omega
 have e4:s.length<9223372036854775808:=by omega
 have e5:(32+(18446744073709551616-s.length)) % 18446744073709551616=32-s.length:=by omega
 have e6:32-s.length≤16777216:=by omega
 have e7:s.length+(32-s.length)<9223372036854775808:=by omega
 have hw2:=f2.wf
 rw [call_entry T.k42 rfl rfl]
 simp only [go_sem,↓op_app,reduceCtorEq,Nat.reduceAdd,Nat.reduceSub,Nat.reduceMul,Nat.reduceEqDiff,Nat.reduceLT,Nat.reduceDiv,Nat.reduceMod,Nat.reduceLeDiff,↓reduceIte,c42,h1,h2,e1,e2,e3,e4,e5,e6,e7,hw2]
theorem newReader_call (T:TCode t) {l:List UInt8} {d:Nat} {k:K} (hw:H.wf) (hl:l.length<1000000) :
  callP (evP cp t fuel (d+1)) (.func 98 []) [tv l] H k=k (.ptr (H.n+1) 0) ((H.new (.bytes l.length (enc l))).new (rdBlk H.n l 0)):=by
 have e1:l.length≤16777216:=by omega
 rw [show tv l = .str l.length (enc l) from rfl,call_entry T.k49 rfl rfl]
 simp only [go_sem,↓op_app,reduceCtorEq,Nat.reduceAdd,Nat.reduceSub,Nat.reduceMul,Nat.reduceEqDiff,Nat.reduceLT,Nat.reduceDiv,Nat.reduceMod,Nat.reduceLeDiff,↓reduceIte,c49,hw,e1,rdBlk,Nat.sub_zero]
theorem ok_call (T:TCode t) {r b pos d:Nat} {all:List UInt8} {k:K} (hr:H.get r=rdBlk b all pos) :
  callP (evP cp t fuel (d+1)) (.func 102 []) [.ptr r 0] H k=k (.bool true) H:=by
 unfold rdBlk at hr
 rw [call_entry T.k51 rfl rfl]
 simp only [go_sem,↓op_app,reduceCtorEq,Nat.reduceAdd,Nat.reduceSub,Nat.reduceMul,Nat.reduceEqDiff,Nat.reduceLT,Nat.reduceDiv,Nat.reduceMod,Nat.reduceLeDiff,↓reduceIte,c51,hr]
set_option maxRecDepth 4000 in
theorem parse_call (T:TCode t) {a n:Nat} (hw:H.wf) (ha:a<2) (hn:n≤72) (hfu:8<fuel) :
  ∃ H',(∀ (d:Nat) (k:K),callP (evP cp t fuel (d+4)) (.func 114 []) [tv (hdr a n)] H k=k (.tup [.int 3 a, .int 3 n, .bool true]) H')∧Fresh H H':=by
 have hlen:=hdr_length a n
 have l1:=pnum_length (a+1)
 have l2:=pnum_length n
 have hd1:(hdr a n).drop 0=pnum (a+1) ++ (pnum n ++ List.replicate (32-(pnum (a+1) ++ pnum n).length) 0):=rfl
 have hd2:(hdr a n).drop (0+(pnum (a+1)).length)=pnum n ++ List.replicate (32-(pnum (a+1) ++ pnum n).length) 0:=by rw [Nat.zero_add,hdr,List.drop_left]
 have hnr:∀ {d:Nat} {k:K},callP (evP cp t fuel (d+1)) (.func 98 []) [tv (hdr a n)] H k=k (.ptr (H.n+1) 0) ((H.new (.bytes 32 (enc (hdr a n)))).new (rdBlk H.n (hdr a n) 0)):=fun {d k}=>by
  rw [newReader_call T hw (by omega),hlen]
 have fG:Fresh H ((H.new (.bytes 32 (enc (hdr a n)))).new (rdBlk H.n (hdr a n) 0)):=(Fresh.new hw).trans (Fresh.new (by rw [Heap.wf_new];exact hw))
 generalize hG:(H.new (.bytes 32 (enc (hdr a n)))).new (rdBlk H.n (hdr a n) 0)=G at hnr fG
 have gw:=fG.wf
 have gn:G.n=H.n+1+1:=by rw [← hG];simp only [Heap.n_new]
 have gr:G.get (H.n+1)=rdBlk H.n (hdr a n) 0:=by rw [← hG,Heap.get_new (by rw [Heap.wf_new];exact hw),if_pos (by rw [Heap.n_new])]
 have gb:G.get H.n = .bytes (hdr a n).length (enc (hdr a n)):=by rw [← hG,Heap.get_new (by rw [Heap.wf_new];exact hw),if_neg (by rw [Heap.n_new];omega),Heap.get_new hw,if_pos rfl,hlen]
 have hrn:H.n+1<G.n:=by omega
 have hne:H.n≠H.n+1:=by omega
 have hn1:∀ {d:Nat} {k:K},callP (evP cp t fuel (d+2)) (.func 100 []) [.ptr (H.n+1) 0] G k=k (.int 7 (a+1)) (G.put (H.n+1) (rdBlk H.n (hdr a n) (0+(pnum (a+1)).length))):=fun {d k}=>num_call T gw gr hrn gb hne (by omega) (by omega) hd1 hfu
 generalize hpos:0+(pnum (a+1)).length=pos at hn1 hd2
 have hn2:∀ {d:Nat} {k:K},callP (evP cp t fuel (d+2)) (.func 100 []) [.ptr (H.n+1) 0] (G.put (H.n+1) (rdBlk H.n (hdr a n) pos)) k=k (.int 7 n) (G.put (H.n+1) (rdBlk H.n (hdr a n) (pos+(pnum n).length))):=fun {d k}=>by
  rw [num_call T (by rw [Heap.wf_put];exact gw) (by rw [Heap.get_put gw hrn,if_pos rfl]) (by rw [Heap.n_put];exact hrn) (by rw [Heap.get_put gw hrn,if_neg hne];exact gb) hne (by omega) (by omega) hd2 hfu,Heap.put_put]
 have fG2:Fresh H (G.put (H.n+1) (rdBlk H.n (hdr a n) (pos+(pnum n).length))):=Fresh.put fG (by omega) hrn
 have hok:∀ {d:Nat} {k:K},callP (evP cp t fuel (d+1)) (.func 102 []) [.ptr (H.n+1) 0] (G.put (H.n+1) (rdBlk H.n (hdr a n) (pos+(pnum n).length))) k=k (.bool true) (G.put (H.n+1) (rdBlk H.n (hdr a n) (pos+(pnum n).length))):=fun {d k}=>ok_call T (by rw [Heap.get_put gw hrn,if_pos rfl])
 generalize G.put (H.n+1) (rdBlk H.n (hdr a n) (pos+(pnum n).length))=G2 at hn2 fG2 hok
 obtain ⟨H3,hh,f3⟩:=header_call (cp:=cp) (fuel:=fuel) T (a:=a) (n:=n) fG2.wf ha hn hfu
 refine ⟨H3,fun d k => ?_,fG2.trans f3⟩
 rw [show tv (hdr a n) = .str 32 (enc (hdr a n)) by rw [tv,hlen]] at hnr hh ⊢
 have e1:(evCF (.lt 0 18446744073709551616) (a+1) 1=true)=False:=by rw [lt_un (by omega) (by omega)];exact propext ⟨fun h=>by omega,False.elim⟩
 have e2:(evCF (.gt 0 18446744073709551616) (a+1) 2=true)=False:=by rw [gt_un (by omega) (by omega)];exact propext ⟨fun h=>by omega,False.elim⟩
 have e3:(evCF (.gt 0 18446744073709551616) n 72=true)=False:=by rw [gt_un (by omega) (by omega)];exact propext ⟨fun h=>by omega,False.elim⟩
 have e4:(a+1) % 18446744073709551616=a+1:=by omega
 have e5:(a+1+18446744073709551615) % 18446744073709551616=a:=by omega
 have e6:n % 18446744073709551616=n:=by omega
 rw [call_entry T.k57 rfl rfl]
 simp only [go_sem,↓op_app,reduceCtorEq,Nat.reduceAdd,Nat.reduceSub,Nat.reduceMul,Nat.reduceEqDiff,Nat.reduceLT,Nat.reduceDiv,Nat.reduceMod,Nat.reduceLeDiff,↓reduceIte,c57,hnr,hn1,hn2,hok,hh,e1,e2,e3,e4,e5,e6,and_self]
theorem head_call (T:TCode t) (hc:HasClone t) {p a n:Nat} {A:AD} {O:Nat→Prop} (hD:Disk H p A O) (ho:A.off=false) (hl:0<A.len) (hr:A.read 0=tx (hdr a n)) (ha:a<2) (hn:n≤72) (hfu:8<fuel) :
  ∃ H',(∀ (d:Nat) (k:K),callP (evP cp t fuel (d+5)) (.func 74 []) [.ptr p 0] H k=k (.tup [.int 3 a, .int 3 n, .int 3 0]) H')∧Fresh H H':=by
 obtain ⟨H1,h1,f1⟩:=read_all (cp:=cp) (fuel:=fuel) (T.disk4 hc) (a:=0) hD ho hl
 obtain ⟨H2,h2,f2⟩:=parse_call (cp:=cp) (fuel:=fuel) T (a:=a) (n:=n) f1.wf ha hn hfu
 refine ⟨H2,fun d k => ?_,f1.trans f2⟩
 rw [hr,sv_tx] at h1
 rw [call_entry T.k37 rfl rfl]
 simp only [go_sem,↓op_app,reduceCtorEq,Nat.reduceAdd,Nat.reduceSub,Nat.reduceMul,Nat.reduceEqDiff,Nat.reduceLT,Nat.reduceDiv,Nat.reduceMod,Nat.reduceLeDiff,↓reduceIte,c37,h1,h2]
end
end Go.Ev
end
section
namespace Go.Ev
theorem Fresh.unmark {G G':Heap} (h:Fresh G.mark G'):Fresh G (G'.unmark G.wlo)∧G.n≤G'.wlo:=
 ⟨⟨h.wf,h.n,h.same,fun _ h1 _=>h1⟩,h.lo G.n (Nat.le_refl _) (Nat.le_refl _)⟩
def okT (x:Tx):Prop:=x.2<256 ^ x.1
def wtx (w:Wr):List UInt8:=sbytes w.2.1 w.2.2
theorem tv_wtx {w:Wr} (h:okT w.2):tv (wtx w) = .str w.2.1 w.2.2:=by
 unfold tv wtx
 rw [sbytes_length,enc_sbytes _ _ h]
theorem wtx_length (w:Wr):(wtx w).length=w.2.1:=sbytes_length _ _
def rec1 (w:Wr):List UInt8:=pnum w.1 ++ pnum w.2.1 ++ wtx w
def recL (ws:List Wr):List UInt8:=ws.flatMap rec1
theorem rec1_length (w:Wr):(rec1 w).length≤w.2.1+18:=by
 have h1:=pnum_length w.1
 have h2:=pnum_length w.2.1
 simp only [rec1,List.length_append,wtx_length]
 omega
section
variable {cp:RC→CodeE} {t:Nat→Option FnE} {fuel:Nat} {H:Heap}
set_option maxRecDepth 4000 in
set_option maxHeartbeats 1000000 in
theorem record_loop (T:TCode t) {b c s n:Nat} {all:List Wr} (hfu:8<fuel) (hb:H.get b = .cells (encW all)) (hbn:b<H.n) (hn:n=all.length) (hnb:n<10000) (hall:∀ w ∈ all,w.1<18446744073709551616∧w.2.1≤1000∧okT w.2) :
  ∀ (ws pre:List Wr) (acc:List UInt8) (G:Heap),all=pre ++ ws→acc.length+ws.length * 1018<100000000→Fresh H G →
  ∃ G',Fresh H G' ∧ ∀ (d:Nat) (kx:Nat→KE) (r:Nat) (e:Env) (v0:V),ws.length<r→pget ⟨.i0, .i0, .i0⟩ e=v0→pget ⟨.i0, .i0, .i6⟩ e=tv acc→pget ⟨.i0, .i2, .i2⟩ e = .slice b 0 n c s→pget ⟨.i0, .i2, .i3⟩ e = .int 3 n→pget ⟨.i0, .i2, .i4⟩ e = .int 3 pre.length →
   ∀ x:R,(∀ e',pget ⟨.i0, .i0, .i0⟩ e'=v0→pget ⟨.i0, .i0, .i6⟩ e'=tv (acc ++ recL ws)→kx 1 e' G'=x) →
   evL c38l0 fuel (evP cp t fuel (d+3)) kx r e G=x:=by
 intro ws
 induction ws with
 | nil=>
  intro pre acc G hal hac f
  refine ⟨G,f,fun d kx r e v0 hr h0 h6 h22 h23 h24 x hT => ?_⟩
  obtain ⟨r,rfl⟩:∃ q,r=q+1:=⟨r-1,by simp only [List.length_nil] at hr;omega⟩
  have hi:pre.length=n:=by rw [hn,hal,List.append_nil]
  have e1:¬ n<n:=by omega
  have e2:nn n:=by unfold nn;omega
  rw [evL_succ]
  rw [hi] at h24
  simp only [go_sem,↓op_app,reduceCtorEq,Nat.reduceAdd,Nat.reduceSub,Nat.reduceMul,Nat.reduceEqDiff,Nat.reduceLT,Nat.reduceDiv,Nat.reduceMod,Nat.reduceLeDiff,↓reduceIte,c38l0,h0,h6,h22,h23,h24,e1,e2]
  exact hT _ (by simp only [go_sem,reduceCtorEq,↓reduceIte,h0]) (by simp only [go_sem,↓op_app,reduceCtorEq,Nat.reduceAdd,Nat.reduceSub,Nat.reduceMul,Nat.reduceEqDiff,Nat.reduceLT,Nat.reduceDiv,Nat.reduceMod,Nat.reduceLeDiff,↓reduceIte,h6,recL,List.flatMap_nil])
 | cons w ws ih=>
  intro pre acc G hal hac f
  simp only [List.length_cons] at hac
  have hw:=f.wf
  obtain ⟨hw1,hw2,hw3⟩:=hall w (by rw [hal];simp)
  have hlt:pre.length<n:=by rw [hn,hal];simp only [List.length_append,List.length_cons];omega
  have e1:nn pre.length:=by unfold nn;omega
  have e2:nn n:=by unfold nn;omega
  have e3:pre.length<9223372036854775808:=by omega
  have e4:pre.length * 2≤(encW all).length:=by rw [encW_length,← hn];omega
  have hd:(encW all).drop (pre.length * 2) = .int 3 w.1 :: .str w.2.1 w.2.2 :: encW ws:=by rw [hal,encW_drop];rfl
  have e5:2≤(encW ws).length+1+1:=by omega
  have e8:G.n<G.n+1:=by omega
  have e9:(pre.length+1) % 18446744073709551616=pre.length+1:=by omega
  have e10:w.1 % 18446744073709551616=w.1:=by omega
  have hbG:G.get b = .cells (encW all):=(f.same b hbn).trans hb
  generalize hG1:(G.new (.cells [.int 3 0, .str 0 0])).put G.n (.cells [.int 3 w.1, .str w.2.1 w.2.2])=G1
  have f1:Fresh H G1:=by rw [← hG1];exact Fresh.put (f.trans (Fresh.new hw)) f.n (by simp only [Heap.n_new];omega)
  have g1n:G1.get G.n = .cells [.int 3 w.1, .str w.2.1 w.2.2]:=by rw [← hG1];simp only [Heap.get_put,Heap.get_new,Heap.wf_put,Heap.wf_new,Heap.n_put,Heap.n_new,hw,e8,if_true]
  have g1l:G.n<G1.n:=by rw [← hG1];simp only [Heap.n_put,Heap.n_new];omega
  have rl:=rec1_length w
  have pl1:=pnum_length w.1
  obtain ⟨G2m,hc2,f2m⟩:=putNum_call (H:=G1.mark) (cp:=cp) (fuel:=fuel) T (a:=acc) (n:=w.1) f1.wf (by omega) hw1 hfu
  obtain ⟨f2,hlo⟩:=f2m.unmark
  generalize hG2:G2m.unmark G1.wlo=G2 at f2
  have g2n:G2.get G.n = .cells [.int 3 w.1, .str w.2.1 w.2.2]:=(f2.same _ g1l).trans g1n
  obtain ⟨G3,hc3,f3⟩:=putText_call (H:=G2) (cp:=cp) (fuel:=fuel) T (a:=acc ++ pnum w.1) (b:=wtx w) f2.wf (by simp only [List.length_append,wtx_length];omega) hfu
  have hacc:acc ++ pnum w.1 ++ pnum (wtx w).length ++ wtx w=acc ++ rec1 w:=by rw [wtx_length];simp only [rec1,List.append_assoc]
  rw [hacc,tv_wtx hw3] at hc3
  obtain ⟨G',f',hG'⟩:=ih (pre ++ [w]) (acc ++ rec1 w) G3 (by rw [hal];simp) (by rw [List.length_append];omega) ((f1.trans f2).trans f3)
  refine ⟨G',f',fun d kx r e v0 hr h0 h6 h22 h23 h24 x hT => ?_⟩
  obtain ⟨r,rfl⟩:∃ q,r=q+1:=⟨r-1,by omega⟩
  have hc2':=fun {d:Nat} {k:K}=>hc2 (d+1) k
  rw [evL_succ]
  simp only [go_sem,↓op_app,reduceCtorEq,Nat.reduceAdd,Nat.reduceSub,Nat.reduceMul,Nat.reduceEqDiff,Nat.reduceLT,Nat.reduceDiv,Nat.reduceMod,Nat.reduceLeDiff,↓reduceIte,c38l0,h0,h6,h22,h23,h24,hlt,e1,e2,e3,e4,hd,e5,e8,e9,e10,hbG,hw,hG1,g1n,hc2',hlo,hG2,g2n,hc3]
  refine hG' d kx r _ v0 (by simp only [List.length_cons] at hr;omega) ?_ ?_ ?_ ?_ ?_ x (fun e' g0 g6=>hT e' g0 (by rw [g6];simp only [recL,List.flatMap_cons,List.append_assoc])) <;> simp only [go_sem,reduceCtorEq,↓reduceIte,h0,h6,h22,h23,h24]
end
end Go.Ev
end
section
namespace Go.Ev
structure FrameOK (pk:List UInt8→List (List UInt8)) (unpk:List (List UInt8)→Option (List UInt8)):Prop where
 len:∀ t,t.length≤8192 → ∀ s ∈ pk t,s.length=32
 num:∀ t,t.length≤2240→(pk t).length≤72
 pos:∀ t,t.length≤8192→pk t≠[]
 back:∀ t,t.length≤8192→unpk (pk t)=some t
noncomputable def nPack (pk:List UInt8→List (List UInt8)) (args:List V) (H:Heap) (k:K):R:=
 match args with
 | [.str l n]=>if l≤8192∧n<256 ^ l then hNew H (.cells ((pk (sbytes l n)).map tv)) fun b H'=>k (.tup [.slice b 0 (pk (sbytes l n)).length 0 1, .int 3 0]) H' else no 0
 | _=>no 0
def outs (area:Nat) (ps:List (List UInt8)):List Wr:=ps.mapIdx fun i s=>(1+area * 72+i,tx s)
theorem outs_length (area:Nat) (ps:List (List UInt8)):(outs area ps).length=ps.length:=by simp [outs]
theorem outs_snoc (area:Nat) (ps:List (List UInt8)) (s:List UInt8):outs area (ps ++ [s])=outs area ps ++ [(1+area * 72+ps.length,tx s)]:=by simp [outs,List.mapIdx_append]
def recT (ws:List Wr):List UInt8:=pnum ws.length ++ recL ws
def Grows (H G:Heap) (v:V) (ws:List Wr):Prop:=(v = .nils∧ws=[]) ∨ ∃ b,v = .slice b 0 ws.length 0 2∧ws≠[]∧G.get b = .cells (encW ws)∧H.n≤b∧b<G.n
section
variable {cp:RC→CodeE} {t:Nat→Option FnE} {fuel:Nat} {H:Heap}
theorem at_call' (T:TCode t) {a i d:Nat} {k:K} {G:Heap} (ha:a<2) (hi:i<1000000) :
  callP (evP cp t fuel (d+1)) (.func 90 []) [.int 3 a, .int 3 i] G k=k (.int 3 (1+a * 72+i)) G:=at_call T ha hi
set_option maxRecDepth 4000 in
set_option maxHeartbeats 1000000 in
theorem record_loop2 (T:TCode t) {b area n:Nat} {all:List (List UInt8)} (ha:area<2) (hn:n=all.length) (hnb:n<10000) :
  ∀ (ps pre:List (List UInt8)) (G:Heap) (vo:V),all=pre ++ ps→Fresh H G→Grows H G vo (outs area pre)→G.get b = .cells (all.map tv)→b<G.n→(∀ bo l c s z,vo = .slice bo l c s z→b≠bo) →
  ∃ G' vo',Fresh H G'∧Grows H G' vo' (outs area all) ∧ ∀ (d:Nat) (kx:Nat→KE) (r:Nat) (e:Env),ps.length<r→pget ⟨.i0, .i0, .i0⟩ e = .int 3 area→pget ⟨.i0, .i1, .i3⟩ e=vo→pget ⟨.i0, .i5, .i5⟩ e = .slice b 0 n 0 1→pget ⟨.i0, .i5, .i6⟩ e = .int 3 n→pget ⟨.i0, .i5, .i7⟩ e = .int 3 pre.length →
   ∀ x:R,(∀ e',pget ⟨.i0, .i1, .i3⟩ e'=vo'→kx 3 e' G'=x) →
   evL c38l1 fuel (evP cp t fuel (d+1)) kx r e G=x:=by
 intro ps
 induction ps with
 | nil=>
  intro pre G vo hal f hg hb hbn hbo
  have hal':all=pre:=by rw [hal,List.append_nil]
  rw [← hal'] at hg
  refine ⟨G,vo,f,hg,fun d kx r e hr h0 h13 h55 h56 h57 x hT => ?_⟩
  obtain ⟨r,rfl⟩:∃ q,r=q+1:=⟨r-1,by simp only [List.length_nil] at hr;omega⟩
  have hi:pre.length=n:=by rw [hn,hal']
  have e1:¬ n<n:=by omega
  have e2:nn n:=by unfold nn;omega
  rw [evL_succ]
  rw [hi] at h57
  simp only [go_sem,↓op_app,reduceCtorEq,Nat.reduceAdd,Nat.reduceSub,Nat.reduceMul,Nat.reduceEqDiff,Nat.reduceLT,Nat.reduceDiv,Nat.reduceMod,Nat.reduceLeDiff,↓reduceIte,c38l1,h0,h13,h55,h56,h57,e1,e2]
  exact hT _ (by simp only [go_sem,reduceCtorEq,↓reduceIte,h13])
 | cons p ps ih=>
  intro pre G vo hal f hg hb hbn hbo
  have hw:=f.wf
  have hlt:pre.length<n:=by rw [hn,hal];simp only [List.length_append,List.length_cons];omega
  have e1:nn pre.length:=by unfold nn;omega
  have e2:nn n:=by unfold nn;omega
  have e3:pre.length<9223372036854775808:=by omega
  have hget:(all.map tv)[pre.length]? = some (tv p):=by rw [hal];simp
  have hnth:∀ {id:Nat} {k:V→R},nth id (all.map tv) pre.length k=k (.str p.length (enc p)):=nth_get hget
  have e9:(pre.length+1) % 18446744073709551616=pre.length+1:=by omega
  have hat:∀ {d:Nat} {k:K} {G:Heap},callP (evP cp t fuel (d+1)) (.func 90 []) [.int 3 area, .int 3 pre.length] G k=k (.int 3 (1+area * 72+pre.length)) G:=fun {d k G}=>at_call' T ha (by omega)
  have hbG:¬ b=G.n:=by omega
  have hos:=outs_snoc area pre p
  have hol:=outs_length area pre
  have e20:2≤2:=Nat.le_refl _
  have e21:(1:Nat)≤1073741824:=by omega
  rcases hg with ⟨rfl,ho⟩ | ⟨bo,rfl,ho,hbo2,hbo3,hbo4⟩
  ·have hp0:pre.length=0:=by rw [← hol,ho];rfl
   have f2:Fresh H ((G.new (.cells [.int 3 (1+area * 72+pre.length), .str p.length (enc p)])).new (.cells [.int 3 (1+area * 72+pre.length), .str p.length (enc p)])):=(f.trans (Fresh.new hw)).trans (Fresh.new (by rw [Heap.wf_new];exact hw))
   have gn:((G.new (.cells [.int 3 (1+area * 72+pre.length), .str p.length (enc p)])).new (.cells [.int 3 (1+area * 72+pre.length), .str p.length (enc p)])).n=G.n+1+1:=by simp only [Heap.n_new]
   obtain ⟨G',vo',f',hg',hG'⟩:=ih (pre ++ [p]) _ (.slice (G.n+1) 0 1 0 2) (by rw [hal];simp) f2 (by
     refine Or.inr ⟨G.n+1,by rw [hos,ho];rfl,by rw [hos];simp, ?_,by have:=f.n;omega,by rw [gn];omega⟩
     rw [Heap.get_new (by rw [Heap.wf_new];exact hw),if_pos (by rw [Heap.n_new]),hos,ho]
     rfl) (by rw [Heap.get_new (by rw [Heap.wf_new];exact hw),if_neg (by rw [Heap.n_new];omega),Heap.get_new hw,if_neg hbG];exact hb) (by rw [gn];omega) (fun bo l c s z he=>by cases he;omega)
   refine ⟨G',vo',f',hg',fun d kx r e hr h0 h13 h55 h56 h57 x hT => ?_⟩
   obtain ⟨r,rfl⟩:∃ q,r=q+1:=⟨r-1,by omega⟩
   rw [evL_succ]
   simp only [go_sem,↓op_app,reduceCtorEq,Nat.reduceAdd,Nat.reduceSub,Nat.reduceMul,Nat.reduceEqDiff,Nat.reduceLT,Nat.reduceDiv,Nat.reduceMod,Nat.reduceLeDiff,↓reduceIte,c38l1,h0,h13,h55,h56,h57,hlt,e1,e2,e3,e9,hb,hnth,hat,hw,e20,e21]
   refine hG' d kx r _ (by simp only [List.length_cons] at hr;omega) ?_ ?_ ?_ ?_ ?_ x hT <;> simp only [go_sem,reduceCtorEq,↓reduceIte,h0,h13,h55,h56,h57]
  ·have hbb:b≠bo:=hbo bo _ _ _ _ rfl
   have e4:¬ bo=G.n:=by omega
   have e5:bo<G.n+1:=by omega
   have e6:pre.length+1≤1073741824:=by omega
   have e7:(encW (outs area pre)).length=pre.length * 2:=by rw [encW_length,hol]
   have gn:(((G.new (.cells [.int 3 (1+area * 72+pre.length), .str p.length (enc p)])).put bo .dead).new (.cells (encW (outs area pre) ++ [.int 3 (1+area * 72+pre.length), .str p.length (enc p)]))).n=G.n+1+1:=by simp only [Heap.n_new,Heap.n_put]
   have w1:((G.new (.cells [.int 3 (1+area * 72+pre.length), .str p.length (enc p)])).put bo .dead).wf:=by simp only [Heap.wf_put,Heap.wf_new,hw]
   have n1:((G.new (.cells [.int 3 (1+area * 72+pre.length), .str p.length (enc p)])).put bo .dead).n=G.n+1:=by simp only [Heap.n_new,Heap.n_put]
   have f2:Fresh H (((G.new (.cells [.int 3 (1+area * 72+pre.length), .str p.length (enc p)])).put bo .dead).new (.cells (encW (outs area pre) ++ [.int 3 (1+area * 72+pre.length), .str p.length (enc p)]))):=(Fresh.put (f.trans (Fresh.new hw)) hbo3 (by rw [Heap.n_new];omega)).trans (Fresh.new w1)
   obtain ⟨G',vo',f',hg',hG'⟩:=ih (pre ++ [p]) _ (.slice (G.n+1) 0 (pre.length+1) 0 2) (by rw [hal];simp) f2 (by
     refine Or.inr ⟨G.n+1,by rw [hos];simp [hol],by rw [hos];simp, ?_,by have:=f.n;omega,by rw [gn];omega⟩
     rw [Heap.get_new w1,if_pos n1.symm,hos,encW_append]
     rfl) (by rw [Heap.get_new w1,if_neg (by rw [n1];omega),Heap.get_put (by rw [Heap.wf_new];exact hw) (by rw [Heap.n_new];omega),if_neg hbb,Heap.get_new hw,if_neg hbG];exact hb) (by rw [gn];omega) (fun bo l c s z he=>by cases he;omega)
   refine ⟨G',vo',f',hg',fun d kx r e hr h0 h13 h55 h56 h57 x hT => ?_⟩
   obtain ⟨r,rfl⟩:∃ q,r=q+1:=⟨r-1,by omega⟩
   rw [hol] at h13
   rw [evL_succ]
   simp only [go_sem,↓op_app,reduceCtorEq,Nat.reduceAdd,Nat.reduceSub,Nat.reduceMul,Nat.reduceEqDiff,Nat.reduceLT,Nat.reduceDiv,Nat.reduceMod,Nat.reduceLeDiff,↓reduceIte,c38l1,h0,h13,h55,h56,h57,hlt,e1,e2,e3,e9,hb,hnth,hat,hw,e20,e21,e4,e5,e6,e7,hbo2]
   refine hG' d kx r _ (by simp only [List.length_cons] at hr;omega) ?_ ?_ ?_ ?_ ?_ x hT <;> simp only [go_sem,reduceCtorEq,↓reduceIte,h0,h13,h55,h56,h57]
theorem be_len:∀ (k m n:Nat) (s:List UInt8),n<256 ^ k→(be m n s).length≤k+s.length
 | _,0,n,s,_=>by simp [be]
 | 0,m+1,n,s,h=>by simp at h;subst h;simp [be]
 | k+1,m+1,n,s,h=>by
  simp only [be]
  split
  ·omega
  ·have:=be_len k m (n / 256) (UInt8.ofNat (n % 256) :: s) (by rw [Nat.div_lt_iff_lt_mul (by omega),← Nat.pow_succ];exact h)
   simp only [List.length_cons] at this
   omega
theorem pnum_len (k n:Nat) (h:n<256 ^ k):(pnum n).length≤k+1:=by
 have:=be_len k 8 n [] h
 simp only [pnum,List.length_cons,List.length_nil] at *
 omega
structure RecOK (ws:List Wr):Prop where
 num:ws.length≤60
 at_:∀ w ∈ ws,w.1<65536
 len:∀ w ∈ ws,w.2.1=32
 ok:∀ w ∈ ws,okT w.2
theorem recL_len:∀ (ws:List Wr),(∀ w ∈ ws,w.1<65536∧w.2.1=32)→(recL ws).length≤ws.length * 37
 | [],_=>by simp [recL]
 | w :: ws,h=>by
  obtain ⟨h1,h2⟩:=h w (List.mem_cons_self ..)
  have h3:=recL_len ws fun v hv=>h v (List.mem_cons_of_mem _ hv)
  have:recL (w :: ws)=rec1 w ++ recL ws:=rfl
  rw [this]
  have p1:=pnum_len 2 w.1 (by omega)
  have p2:=pnum_len 1 w.2.1 (by omega)
  simp only [List.length_append,List.length_cons,rec1,wtx_length]
  omega
theorem RecOK.text {ws:List Wr} (h:RecOK ws):(recT ws).length≤2240:=by
 have h1:=recL_len ws fun w hw=>⟨h.at_ w hw,h.len w hw⟩
 have p2:=pnum_len 1 ws.length (by have:=h.num;omega)
 have h2:=h.num
 simp only [recT,List.length_append]
 omega
set_option maxRecDepth 8000 in
set_option maxHeartbeats 1000000 in
theorem record_call (T:TCode t) {pk:List UInt8→List (List UInt8)} {unpk:List (List UInt8)→Option (List UInt8)} (F:FrameOK pk unpk) (hp:t 60=some (.nat (nPack pk))) {area:Nat} {v:V} {O:Nat→Prop} {ws:List Wr} (hw:H.wf) (ha:area<2) (hv:WsAt H v ws O) (hr:RecOK ws) (h0:ws≠[]) (hfu:100<fuel) :
  ∃ H' vo,(∀ (d:Nat) (k:K),callP (evP cp t fuel (d+4)) (.func 76 []) [.int 3 area,v] H k=k (.tup [vo, .int 3 0]) H')∧Fresh H H'∧Grows H H' vo (outs area (pk (recT ws))):=by
 rcases hv with ⟨_,h⟩ | ⟨b,c,s,rfl,hb,hbn,_⟩
 ·exact absurd h h0
 have hnum:=hr.num
 have htl:=hr.text
 obtain ⟨H1,hc1,f1⟩:=putNum_call (cp:=cp) (fuel:=fuel) T (a:=[]) (n:=ws.length) hw (by simp) (by omega) (by omega)
 have hl1:=pnum_length ws.length
 obtain ⟨H2,f2,hL⟩:=record_loop (H:=H1) (cp:=cp) (fuel:=fuel) (c:=c) (s:=s) (n:=ws.length) T (by omega) ((f1.same b hbn).trans hb) (Nat.lt_of_lt_of_le hbn f1.n) rfl (by omega) (fun w hw=>⟨by have:=hr.at_ w hw;omega,by have:=hr.len w hw;omega,hr.ok w hw⟩) ws [] (pnum ws.length) H1 rfl (by omega) (Fresh.refl f1.wf)
 have hw2:=f2.wf
 have htx:pnum ws.length ++ recL ws=recT ws:=rfl
 rw [htx] at hL
 have hpk:=F.num _ htl
 have hpl:∀ {d:Nat} {k:K},callP (evP cp t fuel (d+1)) (.func 120 []) [.str (recT ws).length (enc (recT ws))] H2 k=k (.tup [.slice H2.n 0 (pk (recT ws)).length 0 1, .int 3 0]) (H2.new (.cells ((pk (recT ws)).map tv))):=fun {d k}=>by
  rw [call_nat hp rfl rfl]
  simp only [nPack,List.append_nil,sbytes_enc]
  rw [if_pos ⟨by omega,enc_lt _⟩,hNew_new hw2]
 generalize recT ws=tx at hL hpk hpl htl ⊢
 have f3:Fresh H (H2.new (.cells ((pk tx).map tv))):=(f1.trans f2).trans (Fresh.new hw2)
 obtain ⟨H4,vo,f4,g4,hL2⟩:=record_loop2 (cp:=cp) (fuel:=fuel) (b:=H2.n) (area:=area) (n:=(pk tx).length) (all:=pk tx) (H:=H2.new (.cells ((pk tx).map tv))) T ha rfl (by omega) (pk tx) [] (H2.new (.cells ((pk tx).map tv))) .nils rfl (Fresh.refl f3.wf) (Or.inl ⟨rfl,rfl⟩) (by rw [Heap.get_new hw2,if_pos rfl]) (by rw [Heap.n_new];omega) (fun _ _ _ _ _ h=>by cases h)
 refine ⟨H4,vo,fun d k => ?_,f3.trans f4, ?_⟩
 ·have e1:ws.length<9223372036854775808:=by omega
  have e2:ws.length % 18446744073709551616=ws.length:=by omega
  have e3:(pk tx).length<9223372036854775808:=by omega
  have e4:¬ 72 < (pk tx).length:=by omega
  have n72:nn 72:=by unfold nn;omega
  have e5:nn (pk tx).length:=by unfold nn;omega
  rw [show tv [] = .str 0 0 from rfl,List.nil_append] at hc1
  rw [call_entry T.k38 rfl rfl]
  simp only [go_sem,↓op_app,reduceCtorEq,Nat.reduceAdd,Nat.reduceSub,Nat.reduceMul,Nat.reduceEqDiff,Nat.reduceLT,Nat.reduceDiv,Nat.reduceMod,Nat.reduceLeDiff,↓reduceIte,c38,hc1,e1,e2]
  refine hL d _ fuel _ (.int 3 area) (by omega) ?_ ?_ ?_ ?_ ?_ _ (fun e' g0 g6 => ?_)
  ·simp only [go_sem,reduceCtorEq,↓reduceIte]
  ·simp only [go_sem,reduceCtorEq,↓reduceIte]
  ·simp only [go_sem,reduceCtorEq,↓reduceIte]
  ·simp only [go_sem,reduceCtorEq,↓reduceIte]
  ·simp only [go_sem,reduceCtorEq,↓reduceIte]
  ·rw [show tv tx = .str tx.length (enc tx) from rfl] at g6
   simp only [go_sem,↓op_app,reduceCtorEq,Nat.reduceAdd,Nat.reduceSub,Nat.reduceMul,Nat.reduceEqDiff,Nat.reduceLT,Nat.reduceDiv,Nat.reduceMod,Nat.reduceLeDiff,↓reduceIte,g0,g6,hpl,e3,e4,e5,n72]
   refine hL2 _ _ fuel _ (by omega) ?_ ?_ ?_ ?_ ?_ _ (fun e'' g13 => ?_)
   ·simp only [go_sem,↓op_app,reduceCtorEq,Nat.reduceAdd,Nat.reduceSub,Nat.reduceMul,Nat.reduceEqDiff,Nat.reduceLT,Nat.reduceDiv,Nat.reduceMod,Nat.reduceLeDiff,↓reduceIte,g0]
   ·simp only [go_sem,reduceCtorEq,↓reduceIte]
   ·simp only [go_sem,reduceCtorEq,↓reduceIte]
   ·simp only [go_sem,reduceCtorEq,↓reduceIte]
   ·simp only [go_sem,reduceCtorEq,↓reduceIte]
   ·simp only [go_sem,↓op_app,reduceCtorEq,Nat.reduceAdd,Nat.reduceSub,Nat.reduceMul,Nat.reduceEqDiff,Nat.reduceLT,Nat.reduceDiv,Nat.reduceMod,Nat.reduceLeDiff,↓reduceIte,g13]
 ·rcases g4 with g | ⟨b',g1,g2,g3,g4,g5⟩
  ·exact Or.inl g
  ·exact Or.inr ⟨b',g1,g2,g3,Nat.le_trans f3.n g4,g5⟩
end
end Go.Ev
end
section
namespace Go.Ev
theorem find_updS:∀ (es:List (Nat × Tx)) (a:Nat) (v:Tx) (k:Nat),find (updS es a v) k=if k=a then some v else find es k
 | [],a,v,k=>by
  simp only [updS,find,List.find?_cons,List.find?_nil]
  by_cases h:k=a
  ·subst h;simp
  ·have:(a == k)=false:=by simpa using fun e=>h e.symm
   simp [this,h]
 | p :: es,a,v,k=>by
  have ih:=find_updS es a v k
  simp only [updS]
  by_cases hp:p.1=a
  ·rw [if_pos hp]
   simp only [find,List.find?_cons] at ih ⊢
   by_cases h:k=a
   ·subst h;simp [hp]
   ·have:(p.1 == k)=false:=by simpa using fun e=>h (e.symm.trans hp)
    simp [this,h]
  ·rw [if_neg hp]
   simp only [find,List.find?_cons] at ih ⊢
   by_cases h:p.1=k
   ·have h1:(p.1 == k)=true:=by simpa using h
    have h2:¬ k=a:=fun e=>hp (h.trans e)
    simp [h1,h2]
   ·have h1:(p.1 == k)=false:=by simpa using h
    simp only [h1]
    exact ih
theorem countP_less {p q:Nat→Bool} {a:Nat} (hpq:∀ k,q k=true→p k=true) (ha:p a=true) (hqa:q a=false):∀ {K:List Nat},a ∈ K→K.countP q+1≤K.countP p
 | [],h=>by cases h
 | b :: K,h=>by
  have hle:K.countP q≤K.countP p:=List.countP_mono_left fun k _ hk=>hpq k hk
  simp only [List.countP_cons]
  by_cases hb:b=a
  ·subst hb
   rw [if_pos ha,if_neg (by simp [hqa])]
   omega
  ·have h':a ∈ K:=by
    rcases List.mem_cons.1 h with e | h
    ·exact absurd e.symm hb
    ·exact h
   have ih:=countP_less hpq ha hqa h'
   by_cases hq:q b=true
   ·rw [if_pos hq,if_pos (hpq b hq)];omega
   ·rw [if_neg hq];omega
theorem roomy_of {room:Nat} {K ns:List Nat}:∀ {ws:List Wr} {es:List (Nat × Tx)},(∀ w ∈ ws,w.1 ∈ ns)→(∀ n ∈ ns,(find es n).isSome=true∨n ∈ K)→(K=[]∨es.length+K.countP (fun k=>(find es k).isNone)≤room)→roomy room es ws
 | [],_,_,_,_=>trivial
 | w :: ws,es,hw,hn,hK=>by
  have hwn:=hw w (List.mem_cons_self ..)
  have hn':∀ n ∈ ns,(find (updS es w.1 w.2) n).isSome=true∨n ∈ K:=fun n h=>by
   rw [find_updS]
   split
   ·exact Or.inl rfl
   ·exact hn n h
  refine ⟨?_,roomy_of (fun v hv=>hw v (List.mem_cons_of_mem _ hv)) hn' ?_⟩
  ·by_cases hs:(find es w.1).isSome=true
   ·exact Or.inl hs
   ·have hk:=(hn w.1 hwn).resolve_left hs
    rcases hK with rfl | hK
    ·cases hk
    ·have h1:(find es w.1).isNone=true:=by simpa using hs
     have:0<K.countP (fun k=>(find es k).isNone):=List.countP_pos_iff.2 ⟨w.1,hk,h1⟩
     right;omega
  ·rcases hK with hK | hK
   ·exact Or.inl hK
   ·right
    rw [updS_length]
    by_cases hs:(find es w.1).isSome=true
    ·rw [if_pos hs]
     have:K.countP (fun k=>(find (updS es w.1 w.2) k).isNone)≤K.countP (fun k=>(find es k).isNone):=List.countP_mono_left fun k _ hk=>by
      rw [find_updS] at hk
      split at hk
      ·cases hk
      ·exact hk
     omega
    ·rw [if_neg hs]
     have hk:=(hn w.1 hwn).resolve_left hs
     have h1:(find es w.1).isNone=true:=by simpa using hs
     have:=countP_less (p:=fun k=>(find es k).isNone) (q:=fun k=>(find (updS es w.1 w.2) k).isNone) (a:=w.1) (fun k hk=>by
      rw [find_updS] at hk
      split at hk
      ·cases hk
      ·exact hk) h1 (by rw [find_updS,if_pos rfl];rfl) hk
     omega
theorem mem_updC:∀ (D:List (Nat × Nat)) (a v k:Nat),k ∈ (updC D a v).map (·.1)↔k=a∨k ∈ D.map (·.1)
 | [],a,v,k=>by simp [updC]
 | p :: D,a,v,k=>by
  have ih:=mem_updC D a v k
  simp only [updC]
  split
  ·rename_i h
   simp only [List.map_cons,List.mem_cons]
   constructor
   ·rintro (h1 | h1)
    ·exact Or.inr (Or.inl h1)
    ·exact Or.inr (Or.inr h1)
   ·rintro (h1 | h1 | h1)
    ·exact Or.inl (h1.trans h.symm)
    ·exact Or.inl h1
    ·exact Or.inr h1
  ·simp only [List.map_cons,List.mem_cons,ih]
   constructor
   ·rintro (h1 | h1 | h1)
    ·exact Or.inr (Or.inl h1)
    ·exact Or.inl h1
    ·exact Or.inr (Or.inr h1)
   ·rintro (h1 | h1 | h1)
    ·exact Or.inr (Or.inl h1)
    ·exact Or.inl h1
    ·exact Or.inr (Or.inr h1)
theorem frs_keys {es:List (Nat × Tx)} {ns:List Nat}:∀ (m:Nat),∀ i,i<m→(find es (ns.getD i 0)).isSome=false→ns.getD i 0 ∈ (frs es ns m).map (·.1)
 | 0,i,h,_=>by omega
 | m+1,i,h,hn=>by
  simp only [frs]
  by_cases hi:i=m
  ·subst hi
   rw [if_neg (by rw [hn];exact Bool.false_ne_true),cnt,mem_updC]
   exact Or.inl rfl
  ·have ih:=frs_keys m i (by omega) hn
   split
   ·exact ih
   ·rw [cnt,mem_updC];exact Or.inr ih
def AD.fits (A:AD) (ns:List Nat):Bool:=decide ((frs A.es ns ns.length).length=0∨A.es.length+(frs A.es ns ns.length).length≤A.room)
theorem fits_roomy {A:AD} {ns:List Nat} {ws:List Wr} (h:A.fits ns=true) (hw:∀ w ∈ ws,w.1 ∈ ns):roomy A.room A.es ws:=by
 have h:=of_decide_eq_true h
 refine roomy_of (K:=(frs A.es ns ns.length).map (·.1)) (ns:=ns) hw (fun n hn => ?_) ?_
 ·obtain ⟨i,hi,rfl⟩:=List.mem_iff_getElem.1 hn
  have hg:ns.getD i 0=ns[i]:=by rw [List.getD_eq_getElem?_getD,List.getElem?_eq_getElem hi];rfl
  by_cases hs:(find A.es ns[i]).isSome=true
  ·exact Or.inl hs
  ·right
   have:=frs_keys (es:=A.es) (ns:=ns) ns.length i hi (by rw [hg];simpa using hs)
   rwa [hg] at this
 ·rcases h with h | h
  ·left
   exact List.map_eq_nil_iff.2 (List.eq_nil_of_length_eq_zero h)
  ·right
   have:=List.countP_le_length (p:=fun k=>(find A.es k).isNone) (l:=(frs A.es ns ns.length).map (·.1))
   rw [List.length_map] at this
   omega
def encN (ns:List Nat):List V:=ns.map (V.int 3)
def Places (H G:Heap) (v:V) (ns:List Nat):Prop:=∃ b c s,v = .slice b 0 ns.length c s∧((c=2∧ns.length=1)∨(c=0∧s=1))∧G.get b = .cells (encN ns)∧H.n≤b∧b<G.n
section
variable {cp:RC→CodeE} {t:Nat→Option FnE} {fuel:Nat} {H:Heap}
set_option maxRecDepth 4000 in
set_option maxHeartbeats 1000000 in
theorem places_loop (T:TCode t) {b c s n:Nat} {all:List Wr} (hn:n=all.length) (hnb:n<10000) (e6':n<10000) :
  ∀ (ws pre:List Wr) (ns:List Nat) (G:Heap) (vp:V),all=pre ++ ws→ns.length+ws.length<20000→Fresh H G→Places H G vp ns→G.get b = .cells (encW all)→b<G.n→(∀ bo l c s z,vp = .slice bo l c s z→b≠bo) →
  ∃ G' vp',Fresh H G'∧Places H G' vp' (ns ++ ws.map (·.1)) ∧ ∀ (d:Nat) (kx:Nat→KE) (r:Nat) (e:Env) (v0 v1 v6 v11:V),ws.length<r→pget ⟨.i0, .i0, .i0⟩ e=v0→pget ⟨.i0, .i0, .i1⟩ e=v1→pget ⟨.i0, .i0, .i6⟩ e=v6→pget ⟨.i0, .i1, .i1⟩ e=v11→pget ⟨.i0, .i1, .i2⟩ e=vp→pget ⟨.i0, .i7, .i1⟩ e = .slice b 0 n c s→pget ⟨.i0, .i7, .i2⟩ e = .int 3 n→pget ⟨.i0, .i7, .i3⟩ e = .int 3 pre.length →
   ∀ x:R,(∀ e',pget ⟨.i0, .i0, .i0⟩ e'=v0→pget ⟨.i0, .i0, .i1⟩ e'=v1→pget ⟨.i0, .i0, .i6⟩ e'=v6→pget ⟨.i0, .i1, .i1⟩ e'=v11→pget ⟨.i0, .i1, .i2⟩ e'=vp'→kx 1 e' G'=x) →
   evL c19l0 fuel (evP cp t fuel d) kx r e G=x:=by
 intro ws
 induction ws with
 | nil=>
  intro pre ns G vp hal hnl f hg hb hbn hbo
  refine ⟨G,vp,f,by simpa using hg,fun d kx r e v0 v1 v6 v11 hr h0 h1 h6 h11 h12 h71 h72 h73 x hT => ?_⟩
  obtain ⟨r,rfl⟩:∃ q,r=q+1:=⟨r-1,by simp only [List.length_nil] at hr;omega⟩
  have hi:pre.length=n:=by rw [hn,hal,List.append_nil]
  have e1:¬ n<n:=by omega
  have e2:nn n:=by unfold nn;omega
  rw [evL_succ]
  rw [hi] at h73
  simp only [go_sem,↓op_app,reduceCtorEq,Nat.reduceAdd,Nat.reduceSub,Nat.reduceMul,Nat.reduceEqDiff,Nat.reduceLT,Nat.reduceDiv,Nat.reduceMod,Nat.reduceLeDiff,↓reduceIte,c19l0,h0,h1,h6,h11,h12,h71,h72,h73,e1,e2]
  refine hT _ ?_ ?_ ?_ ?_ ?_ <;> simp only [go_sem,reduceCtorEq,↓reduceIte,h0,h1,h6,h11,h12]
 | cons w ws ih=>
  intro pre ns G vp hal hnl f hg hb hbn hbo
  simp only [List.length_cons] at hnl
  have hw:=f.wf
  have hlt:pre.length<n:=by rw [hn,hal];simp only [List.length_append,List.length_cons];omega
  have e1:nn pre.length:=by unfold nn;omega
  have e2:nn n:=by unfold nn;omega
  have e3:pre.length<9223372036854775808:=by omega
  have e4:pre.length * 2≤(encW all).length:=by rw [encW_length,← hn];omega
  have hd:(encW all).drop (pre.length * 2) = .int 3 w.1 :: .str w.2.1 w.2.2 :: encW ws:=by rw [hal,encW_drop];rfl
  have e5:2≤(encW ws).length+1+1:=by omega
  have e9:(pre.length+1) % 18446744073709551616=pre.length+1:=by omega
  obtain ⟨bo,co,so,rfl,hcs,hbo2,hbo3,hbo4⟩:=hg
  have hbb:b≠bo:=hbo bo _ _ _ _ rfl
  have e8:G.n<G.n+1:=by omega
  have e10:¬ bo=G.n:=by omega
  have e11:¬ bo=G.n+1:=by omega
  have e12:bo<G.n+1+1:=by omega
  have e13:¬ b=G.n:=by omega
  have e14:¬ b=G.n+1:=by omega
  have e15:ns.length+1≤1073741824:=by omega
  have e16:(encN ns).length=ns.length:=by simp [encN]
  have hw1:((G.new (.cells [.int 3 0, .str 0 0])).put G.n (.cells [.int 3 w.1, .str w.2.1 w.2.2])).wf:=by simp only [Heap.wf_put,Heap.wf_new,hw]
  have f1:Fresh H (((G.new (.cells [.int 3 0, .str 0 0])).put G.n (.cells [.int 3 w.1, .str w.2.1 w.2.2])).new (.cells [.int 3 w.1])):=(Fresh.put (f.trans (Fresh.new hw)) f.n (by simp only [Heap.n_new];omega)).trans (Fresh.new hw1)
  have hns:ns ++ (w :: ws).map (·.1)=(ns ++ [w.1]) ++ ws.map (·.1):=by simp
  rw [hns]
  have e20:(1:Nat)≤1073741824:=by omega
  rcases hcs with ⟨rfl,hl1⟩ | ⟨rfl,rfl⟩
  ·have hone:∀ {id:Nat} {k:R},allOne id (encN ns) k=k:=fun {id k}=>by
    obtain ⟨q,rfl⟩:∃ q,ns=[q]:=List.length_eq_one_iff.1 hl1
    rfl
   have e17:(encN ns).take ns.length=encN ns:=List.take_of_length_le (by rw [e16];exact Nat.le_refl _)
   have e18:ns.length≤(encN ns).length:=by rw [e16];exact Nat.le_refl _
   have f2:=f1.trans (Fresh.new (x := .cells (encN ns ++ [.int 3 w.1])) f1.wf)
   obtain ⟨G',vp',f',hg',hG'⟩:=ih (pre ++ [w]) (ns ++ [w.1]) _ (.slice (G.n+1+1) 0 (ns.length+1) 0 1) (by rw [hal];simp) (by simp only [List.length_append,List.length_cons,List.length_nil];omega) f2 (by
     refine ⟨G.n+1+1,0,1,by simp,Or.inr ⟨rfl,rfl⟩, ?_,by have:=f.n;omega,by simp only [Heap.n_new,Heap.n_put];omega⟩
     simp only [Heap.get_put,Heap.get_new,Heap.wf_put,Heap.wf_new,Heap.n_put,Heap.n_new,hw,if_true,encN,List.map_append,List.map_cons,List.map_nil])
    (by
     have e30:¬ b=G.n+1+1:=by omega
     simp only [Heap.get_put,Heap.get_new,Heap.wf_put,Heap.wf_new,Heap.n_put,Heap.n_new,hw,e8,e13,e14,e30,if_false,hb]) (by simp only [Heap.n_new,Heap.n_put];omega) (fun bo l c s z he=>by cases he;omega)
   refine ⟨G',vp',f',hg',fun d kx r e v0 v1 v6 v11 hr h0 h1 h6 h11 h12 h71 h72 h73 x hT => ?_⟩
   obtain ⟨r,rfl⟩:∃ q,r=q+1:=⟨r-1,by omega⟩
   have e19:1<ns.length+1:=by omega
   have hgrow:∀ {id:Nat} {H:Heap} {new:List V} {k:K},appC id 1 1 new bo 0 ns.length 2 so H k=allOne id new (if ns.length+1≤1073741824 then loadN id H bo 0 (ns.length * 1) fun l=>allOne id l (hNew H (.cells (l ++ new)) fun b' H=>k (.slice b' 0 (ns.length+1) 0 1) H) else no 0):=fun {id H new k}=>appC_grow e19
   rw [evL_succ]
   simp only [go_sem,↓op_app,reduceCtorEq,Nat.reduceAdd,Nat.reduceSub,Nat.reduceMul,Nat.reduceEqDiff,Nat.reduceLT,Nat.reduceDiv,Nat.reduceMod,Nat.reduceLeDiff,↓reduceIte,c19l0,h0,h1,h6,h11,h12,h71,h72,h73,hlt,e1,e2,e3,e4,hd,e5,e8,e9,e10,e11,hb,hw,e20,hgrow,hbo2,e15,e17,e18,hone]
   refine hG' d kx r _ v0 v1 v6 v11 (by simp only [List.length_cons] at hr;omega) ?_ ?_ ?_ ?_ ?_ ?_ ?_ ?_ x hT <;> simp only [go_sem,reduceCtorEq,↓reduceIte,h0,h1,h6,h11,h12,h71,h72,h73]
  ·have f2:=(f1.put (b:=bo) (x := .dead) hbo3 (by simp only [Heap.n_new,Heap.n_put];omega)).trans (Fresh.new (x := .cells (encN ns ++ [.int 3 w.1])) (by simp only [Heap.wf_put];exact f1.wf))
   obtain ⟨G',vp',f',hg',hG'⟩:=ih (pre ++ [w]) (ns ++ [w.1]) _ (.slice (G.n+1+1) 0 (ns.length+1) 0 1) (by rw [hal];simp) (by simp only [List.length_append,List.length_cons,List.length_nil];omega) f2 (by
     refine ⟨G.n+1+1,0,1,by simp,Or.inr ⟨rfl,rfl⟩, ?_,by have:=f.n;omega,by simp only [Heap.n_new,Heap.n_put];omega⟩
     simp only [Heap.get_put,Heap.get_new,Heap.wf_put,Heap.wf_new,Heap.n_put,Heap.n_new,hw,if_true,encN,List.map_append,List.map_cons,List.map_nil])
    (by
     have e30:¬ b=G.n+1+1:=by omega
     have e31:¬ b=bo:=hbb
     simp only [Heap.get_put,Heap.get_new,Heap.wf_put,Heap.wf_new,Heap.n_put,Heap.n_new,hw,e8,e12,e13,e14,e30,e31,if_false,hb]) (by simp only [Heap.n_new,Heap.n_put];omega) (fun bo l c s z he=>by cases he;omega)
   refine ⟨G',vp',f',hg',fun d kx r e v0 v1 v6 v11 hr h0 h1 h6 h11 h12 h71 h72 h73 x hT => ?_⟩
   obtain ⟨r,rfl⟩:∃ q,r=q+1:=⟨r-1,by omega⟩
   rw [evL_succ]
   simp only [go_sem,↓op_app,reduceCtorEq,Nat.reduceAdd,Nat.reduceSub,Nat.reduceMul,Nat.reduceEqDiff,Nat.reduceLT,Nat.reduceDiv,Nat.reduceMod,Nat.reduceLeDiff,↓reduceIte,c19l0,h0,h1,h6,h11,h12,h71,h72,h73,hlt,e1,e2,e3,e4,hd,e5,e8,e9,e10,e11,e12,hb,hw,e20,hbo2,e15,e16]
   refine hG' d kx r _ v0 v1 v6 v11 (by simp only [List.length_cons] at hr;omega) ?_ ?_ ?_ ?_ ?_ ?_ ?_ ?_ x hT <;> simp only [go_sem,reduceCtorEq,↓reduceIte,h0,h1,h6,h11,h12,h71,h72,h73]
end
end Go.Ev
end
section
namespace Go.Ev
def AD.commit (A:AD) (pk:List UInt8→List (List UInt8)) (a:Nat) (ws:List Wr):AD × Nat:=
 if A.off=true then (A,6) else if ws.length=0 then (A,0) else if 60<ws.length then (A,3) else if mayP A.len [] ws=false then (A,2) else
  if A.fits (0 :: (outs (1-a) (pk (recT ws)) ++ ws).map (·.1))=true then A.runs [outs (1-a) (pk (recT ws)),[(0,tx (hdr (1-a) (pk (recT ws)).length))],ws] else (A,7)
theorem mayP_good:∀ {ws:List Wr} {len:Nat} {seen:List Nat},mayP len seen ws=true→(∀ w ∈ ws,goodW len w∧w.1 ∉ seen)∧(ws.map (·.1)).Nodup
 | [],_,_,_=>⟨fun _ h=>(by cases h),List.nodup_nil⟩
 | w :: ws,len,seen,h=>by
  simp only [mayP] at h
  split at h
  ·rename_i hg
   obtain ⟨h1,h2⟩:=mayP_good h
   refine ⟨fun v hv => ?_, ?_⟩
   ·rcases List.mem_cons.1 hv with rfl | hv
    ·exact hg
    ·exact ⟨(h1 v hv).1,fun hs=>(h1 v hv).2 (by simp [hs])⟩
   ·rw [List.map_cons,List.nodup_cons]
    refine ⟨fun hm => ?_,h2⟩
    obtain ⟨v,hv,he⟩:=List.mem_map.1 hm
    exact (h1 v hv).2 (by simp [he])
  ·cases h
theorem outs_mem {area:Nat} {ps:List (List UInt8)} {w:Wr} (h:w ∈ outs area ps):∃ i,∃ h':i<ps.length,w=(1+area * 72+i,tx ps[i]):=by
 simp only [outs,List.mem_mapIdx] at h
 obtain ⟨i,hi,rfl⟩:=h
 exact ⟨i,hi,rfl⟩
theorem allOne_encW:∀ {ws:List Wr} {id:Nat} {k:R},allOne id (encW ws) k=k
 | [],_,_=>rfl
 | w :: ws,id,k=>by
  rw [encW_cons,allOne_cons,allOne_cons,isOne_int,isOne_str]
  exact allOne_encW
section
variable {cp:RC→CodeE} {t:Nat→Option FnE} {fuel:Nat} {H:Heap}
theorem fits_all (T:TDisk4 t) {p b c s:Nat} {A:AD} {O:Nat→Prop} {ns:List Nat} (hD:Disk H p A O) (ho:A.off=false) (hb:H.get b = .cells (encN ns)) (hbn:b<H.n) (hns:∀ v ∈ ns,v<A.len) (hnb:ns.length<1000000) (heb:A.es.length<1000000) (hfu:ns.length<fuel) :
  ∃ H',(∀ (d:Nat) (k:K),callP (evP cp t fuel (d+5)) (.func 78 []) [.ptr p 0, .slice b 0 ns.length c s] H k=k (.bool (A.fits ns)) H')∧Fresh H H':=by
 obtain ⟨D,h,h1,h2,h3,h4,rfl⟩:=hD
 obtain ⟨H',g1,g2,g3,g4,g5⟩:=fits_call (cp:=cp) (fuel:=fuel) (c:=c) (s:=s) (off:=0) T.toTDisk3 h.wf h.hp h.hg h.hm h.hmn hb hbn (h4.trans ho) h.hl h.hr (by simp [encN]) (fun i v hv=>by rw [Nat.zero_add];simp [encN,hv]) (fun v hv=>by rw [h1];exact hns v hv) hnb heb hfu
 refine ⟨H',fun d k => ?_,g2,g3,g4,g5⟩
 rw [g1,h2]
 rfl
structure CanCommit (A:AD) (a n:Nat):Prop where
 lo:145≤A.len
 hi:A.len≤1024
 es:A.es.length<100000
 us:A.us.length<50000
 head:A.read 0=tx (hdr a n)
 a:a<2
 n:n≤72
theorem commit_small (T:TCode t) (hc:HasClone t) {pk:List UInt8→List (List UInt8)} {p a:Nat} {A:AD} {O:Nat→Prop} {v:V} {ws:List Wr} (hD:Disk H p A O) (hl:A.len≤1024) (hv:WsAt H v ws O) (hws:∀ w ∈ ws,w.1<18446744073709551616∧w.2.1<1000000) (hnb:ws.length<10000) (hfu:ws.length<fuel)
  (h:A.off=true∨ws.length=0∨60<ws.length∨mayP A.len [] ws=false) :
  ∃ H',(∀ (d:Nat) (k:K),callP (evP cp t fuel (d+7)) (.func 38 []) [.ptr p 0,v] H k=k (.int 3 (A.commit pk a ws).2) H')∧Fresh H H'∧(A.commit pk a ws).1=A:=by
 have hw:=hD.wf
 have hr:∀ {d:Nat} {k:K},callP (evP cp t fuel (d+3)) (.func 70 []) [.ptr p 0] H k=k (.int 3 (if A.off=true then 6 else 0)) H:=fun {d k}=>ready_call T hc hD
 obtain ⟨H1,hm,f1⟩:=may_call (cp:=cp) (fuel:=fuel) T hc hD (by unfold nn;omega) hv hws (by omega) hfu
 have e1:ws.length<9223372036854775808:=by omega
 have n60:nn 60:=by unfold nn;omega
 have nl:nn ws.length:=by unfold nn;omega
 have hr2:∀ {d:Nat} {k:K},callP (evP cp t fuel (d+1+1+1)) (.func 70 []) [.ptr p 0] H k=k (.int 3 (if A.off=true then 6 else 0)) H:=fun {d k}=>hr
 unfold AD.commit
 by_cases ho:A.off=true
 ·refine ⟨H,fun d k => ?_,Fresh.refl hw,by rw [if_pos ho]⟩
  rw [if_pos ho,call_entry T.k19 rfl rfl]
  rw [ho] at hr
  simp only [if_true] at hr
  simp only [go_sem,↓op_app,reduceCtorEq,Nat.reduceAdd,Nat.reduceSub,Nat.reduceMul,Nat.reduceEqDiff,Nat.reduceLT,Nat.reduceDiv,Nat.reduceMod,Nat.reduceLeDiff,↓reduceIte,c19,hr]
 ·simp only [ho,if_false,false_or,Bool.false_eq_true] at h hr ⊢
  rcases hv with ⟨rfl,rfl⟩ | ⟨b,c,s,rfl,hb,hbn,hbO⟩
  ·refine ⟨H,fun d k => ?_,Fresh.refl hw,by simp⟩
   rw [call_entry T.k19 rfl rfl]
   simp only [go_sem,↓op_app,reduceCtorEq,Nat.reduceAdd,Nat.reduceSub,Nat.reduceMul,Nat.reduceEqDiff,Nat.reduceLT,Nat.reduceDiv,Nat.reduceMod,Nat.reduceLeDiff,↓reduceIte,c19,hr]
  ·by_cases h0:ws.length=0
   ·refine ⟨H,fun d k => ?_,Fresh.refl hw,by rw [if_pos h0]⟩
    rw [call_entry T.k19 rfl rfl]
    simp only [go_sem,↓op_app,reduceCtorEq,Nat.reduceAdd,Nat.reduceSub,Nat.reduceMul,Nat.reduceEqDiff,Nat.reduceLT,Nat.reduceDiv,Nat.reduceMod,Nat.reduceLeDiff,↓reduceIte,c19,hr,h0]
   ·simp only [h0,if_false,false_or] at h ⊢
    by_cases h6:60<ws.length
    ·refine ⟨H,fun d k => ?_,Fresh.refl hw,by rw [if_pos h6]⟩
     rw [call_entry T.k19 rfl rfl]
     simp only [go_sem,↓op_app,reduceCtorEq,Nat.reduceAdd,Nat.reduceSub,Nat.reduceMul,Nat.reduceEqDiff,Nat.reduceLT,Nat.reduceDiv,Nat.reduceMod,Nat.reduceLeDiff,↓reduceIte,c19,hr,h0,e1,n60,nl,h6]
    ·simp only [h6,if_false,false_or] at h ⊢
     refine ⟨H1,fun d k => ?_,f1,by rw [if_pos h]⟩
     rw [call_entry T.k19 rfl rfl]
     rw [h] at hm
     have hm':=fun {d:Nat} {k:K}=>hm (d+4) k
     simp only [go_sem,↓op_app,reduceCtorEq,Nat.reduceAdd,Nat.reduceSub,Nat.reduceMul,Nat.reduceEqDiff,Nat.reduceLT,Nat.reduceDiv,Nat.reduceMod,Nat.reduceLeDiff,↓reduceIte,c19,hr,h0,e1,n60,nl,h6,hm',h]
set_option maxRecDepth 8000 in
set_option maxHeartbeats 2000000 in
theorem commit_call (T:TCode t) (hc:HasClone t) {pk:List UInt8→List (List UInt8)} {unpk:List (List UInt8)→Option (List UInt8)} (F:FrameOK pk unpk) (hp:t 60=some (.nat (nPack pk)))
  {p a n:Nat} {A:AD} {O:Nat→Prop} {v:V} {ws:List Wr} (hD:Disk H p A O) (C:CanCommit A a n) (hv:WsAt H v ws O) (hws:∀ w ∈ ws,w.1<18446744073709551616∧w.2.1<1000000∧okT w.2) (hnb:ws.length<10000) (hfu:10000<fuel) :
  ∃ H' O',(∀ (d:Nat) (k:K),callP (evP cp t fuel (d+7)) (.func 38 []) [.ptr p 0,v] H k=k (.int 3 (A.commit pk a ws).2) H')∧Step H O H' O'∧Disk H' p (A.commit pk a ws).1 O':=by
 by_cases hsm:A.off=true∨ws.length=0∨60<ws.length∨mayP A.len [] ws=false
 ·obtain ⟨H',g1,g2,g3⟩:=commit_small (cp:=cp) (fuel:=fuel) (pk:=pk) (a:=a) T hc hD C.hi hv (fun w hw=>⟨(hws w hw).1,(hws w hw).2.1⟩) hnb (by omega) hsm
  exact ⟨H',O,g1,g2.step,by rw [g3];exact hD.fresh g2⟩
 ·have ho:A.off=false:=by
   cases h:A.off with
   | true=>exact absurd (Or.inl h) hsm
   | false=>rfl
  have h0:¬ ws.length=0:=fun h=>hsm (Or.inr (Or.inl h))
  have h6:¬ 60<ws.length:=fun h=>hsm (Or.inr (Or.inr (Or.inl h)))
  have hmay:mayP A.len [] ws=true:=by
   cases h:mayP A.len [] ws with
   | false=>exact absurd (Or.inr (Or.inr (Or.inr h))) hsm
   | true=>rfl
  have hcm:A.commit pk a ws=if A.fits (0 :: (outs (1-a) (pk (recT ws)) ++ ws).map (·.1))=true then A.runs [outs (1-a) (pk (recT ws)),[(0,tx (hdr (1-a) (pk (recT ws)).length))],ws] else (A,7):=by
   unfold AD.commit
   rw [if_neg (by rw [ho];exact Bool.false_ne_true),if_neg h0,if_neg h6,if_neg (by rw [hmay];exact Bool.noConfusion)]
  obtain ⟨k1,k2,k3,k4,k5,k6,k7⟩:=C
  obtain ⟨hgood,_⟩:=mayP_good hmay
  have hne:ws≠[]:=fun h=>h0 (by rw [h];rfl)
  have hrec:RecOK ws:=⟨by omega,fun w hw=>by have:=(hgood w hw).1.2.1;omega,fun w hw=>(hgood w hw).1.2.2,fun w hw=>(hws w hw).2.2⟩
  have htl:=hrec.text
  have hpkn:=F.num _ htl
  have hpkp:=F.pos (recT ws) (by omega)
  have hpkl:=F.len (recT ws) (by omega)
  have hw:=hD.wf
  have ha1:1-a<2:=by omega
  have hr:∀ {d:Nat} {k:K},callP (evP cp t fuel (d+3)) (.func 70 []) [.ptr p 0] H k=k (.int 3 0) H:=fun {d k}=>by
   rw [ready_call T hc hD,ho]
   rfl
  obtain ⟨H1,hm1,f1⟩:=may_call (cp:=cp) (fuel:=fuel) T hc hD (by unfold nn;omega) hv (fun w hw=>⟨(hws w hw).1,(hws w hw).2.1⟩) (by omega) (by omega)
  rw [hmay] at hm1
  obtain ⟨H2,hh2,f2⟩:=head_call (cp:=cp) (fuel:=fuel) T hc (hD.fresh f1) ho (by omega) k5 k6 k7 (by omega)
  have f12:=f1.trans f2
  obtain ⟨H3,vo,hr3,f3,g3⟩:=record_call (cp:=cp) (fuel:=fuel) T F hp (area:=1-a) f2.wf ha1 (hv.fresh f12) hrec hne (by omega)
  have f13:=f12.trans f3
  have hol:=outs_length (1-a) (pk (recT ws))
  have hmem:∀ w ∈ outs (1-a) (pk (recT ws)),w.1<145∧w.2.1=32:=fun w hw=>by
   obtain ⟨i,hi,rfl⟩:=outs_mem hw
   refine ⟨by show 1+(1-a) * 72+i<145;omega,hpkl _ (List.getElem_mem hi)⟩
  generalize hfi:outs (1-a) (pk (recT ws))=first at hcm g3 hol hmem
  generalize hm:(pk (recT ws)).length=m at hcm hpkn hol
  have hfne:first≠[]:=fun h=>by
   rw [h] at hol
   have hm0:(pk (recT ws)).length=0:=by rw [hm];exact hol.symm
   exact hpkp (List.eq_nil_of_length_eq_zero hm0)
  have hm0:¬ m=0:=fun h=>hfne (List.eq_nil_of_length_eq_zero (hol.trans h))
  obtain ⟨bo,rfl,hbo2,hbo3,hbo4⟩:∃ bo,vo = .slice bo 0 m 0 2∧H3.get bo = .cells (encW first)∧H2.n≤bo∧bo<H3.n:=by
   rcases g3 with ⟨_,h⟩ | ⟨bo,h1,h2,h3,h4,h5⟩
   ·exact absurd h hfne
   ·exact ⟨bo,by rw [h1,hol],h3,h4,h5⟩
  have hboO:¬ O bo:=fun h=>by have:=hD.lt bo h;have:=f12.n;omega
  obtain ⟨b,c,s,rfl,hb,hbn,hbO⟩:∃ b c s,v = .slice b 0 ws.length c s∧H.get b = .cells (encW ws)∧b<H.n ∧ ¬ O b:=by
   rcases hv with ⟨_,h⟩ | h
   ·exact absurd h hne
   ·exact h
  have hv3:WsAt H (.slice b 0 ws.length c s) ws O:=Or.inr ⟨b,c,s,rfl,hb,hbn,hbO⟩
  have hw3:=f3.wf
  have f4:Fresh H ((H3.new (.cells [.int 3 0])).new (.cells (encW first ++ encW ws))):=(f13.trans (Fresh.new hw3)).trans (Fresh.new (by rw [Heap.wf_new];exact hw3))
  generalize hH4:(H3.new (.cells [.int 3 0])).new (.cells (encW first ++ encW ws))=H4 at f4
  have f34:Fresh H3 H4:=by rw [← hH4];exact (Fresh.new hw3).trans (Fresh.new (by rw [Heap.wf_new];exact hw3))
  have h4n:H4.n=H3.n+1+1:=by rw [← hH4];simp only [Heap.n_new]
  have h4a:H4.get H3.n = .cells [.int 3 0]:=by
   rw [← hH4,Heap.get_new (by rw [Heap.wf_new];exact hw3),if_neg (by rw [Heap.n_new];omega),Heap.get_new hw3,if_pos rfl]
  have h4b:H4.get (H3.n+1) = .cells (encW (first ++ ws)):=by
   rw [← hH4,Heap.get_new (by rw [Heap.wf_new];exact hw3),if_pos (by rw [Heap.n_new]),encW_append]
  have hpl4:Places H3 H4 (.slice H3.n 0 1 2 0) [0]:=⟨H3.n,2,0,rfl,Or.inl ⟨rfl,rfl⟩,h4a,Nat.le_refl _,by omega⟩
  obtain ⟨H5,vp,f35,⟨bp,cp5,sp5,rfl,_,hp2,hp3,hp4⟩,hL⟩:=places_loop (cp:=cp) (t:=t) (fuel:=fuel) (H:=H3) (c:=0) (s:=2) (b:=H3.n+1) (n:=(first ++ ws).length) (all:=first ++ ws) T rfl (by rw [List.length_append];omega) (by rw [List.length_append];omega) (first ++ ws) [] [0] H4 (.slice H3.n 0 1 2 0) rfl (by rw [List.length_append];simp only [List.length_cons,List.length_nil];omega) f34 hpl4 h4b (by omega) (fun bo l c s z he=>by cases he;omega)
  have f5:Fresh H H5:=f13.trans f35
  have hnsl:([0] ++ (first ++ ws).map (fun w:Wr=>w.1)).length=m+ws.length+1:=by simp only [List.length_append,List.length_map,List.length_cons,List.length_nil];omega
  obtain ⟨H6,hf6,f56⟩:=fits_all (cp:=cp) (fuel:=fuel) (c:=cp5) (s:=sp5) (T.disk4 hc) (hD.fresh f5) ho hp2 hp4 (fun x hx=>by
    simp only [List.cons_append,List.nil_append,List.mem_cons,List.map_append,List.mem_append,List.mem_map] at hx
    rcases hx with rfl | ⟨w,hw,rfl⟩ | ⟨w,hw,rfl⟩
    ·omega
    ·have:=(hmem w hw).1;omega
    ·exact (hgood w hw).1.2.1) (by rw [hnsl];omega) (by omega) (by rw [hnsl];omega)
  have f6:Fresh H H6:=f5.trans f56
  have f36:Fresh H3 H6:=f35.trans f56
  have hfirst:WsAt H3 (.slice bo 0 m 0 2) first O:=Or.inr ⟨bo,0,2,by rw [hol],hbo2,hbo4,hboO⟩
  obtain ⟨H7,F1,ha7,f67,hA1⟩:=all_call (cp:=cp) (fuel:=fuel) T (p:=p) f6.wf (fun x hx=>Nat.lt_of_lt_of_le (hD.lt x hx) f6.n) (hfirst.fresh f36)
  have f7:=f6.trans f67
  obtain ⟨H8,hh8,f78⟩:=header_call (cp:=cp) (fuel:=fuel) T (a:=1-a) (n:=m) f7.wf ha1 hpkn (by omega)
  have f8:=f7.trans f78
  have hw8:=f8.wf
  have hhl:=hdr_length (1-a) m
  rw [show tv (hdr (1-a) m) = .str 32 (enc (hdr (1-a) m)) by rw [tv,hhl]] at hh8
  have f89:Fresh H8 (H8.new (.cells [.int 3 0, .str 32 (enc (hdr (1-a) m))])):=Fresh.new hw8
  have h9b:(H8.new (.cells [.int 3 0, .str 32 (enc (hdr (1-a) m))])).get H8.n = .cells [.int 3 0, .str 32 (enc (hdr (1-a) m))]:=by rw [Heap.get_new hw8,if_pos rfl]
  have h9n:(H8.new (.cells [.int 3 0, .str 32 (enc (hdr (1-a) m))])).n=H8.n+1:=Heap.n_new
  generalize hH9:H8.new (.cells [.int 3 0, .str 32 (enc (hdr (1-a) m))])=H9 at f89 h9b h9n
  have f9:=f8.trans f89
  have hhd:WsAt H9 (.slice H8.n 0 1 2 0) [(0,tx (hdr (1-a) m))] O:=Or.inr ⟨H8.n,2,0,rfl,by rw [h9b];simp only [encW,List.flatMap_cons,List.flatMap_nil,encW1,tx,hhl,List.append_nil],by omega,fun h=>by have:=hD.lt _ h;have:=f8.n;omega⟩
  obtain ⟨H10,F2,ha10,f910,hA2⟩:=all_call (cp:=cp) (fuel:=fuel) T (p:=p) f9.wf (fun x hx=>Nat.lt_of_lt_of_le (hD.lt x hx) f9.n) hhd
  have f10:=f9.trans f910
  obtain ⟨H11,F3,ha11,f1011,hA3⟩:=all_call (cp:=cp) (fuel:=fuel) T (p:=p) f10.wf (fun x hx=>Nat.lt_of_lt_of_le (hD.lt x hx) f10.n) (hv3.fresh f10)
  have f11:=f10.trans f1011
  have hw11:=f11.wf
  have f1112:Fresh H11 (H11.new (.cells [F1,F2,F3])):=Fresh.new hw11
  have hA1':=hA1.keep ((((f78.trans f89).trans f910).trans f1011).trans f1112).step
  have hA2':=hA2.keep (f1011.trans f1112).step
  have hA3':=hA3.keep f1112.step
  have f12':=f11.trans f1112
  have fin:A.fits (0 :: (first ++ ws).map (·.1))=true → ∃ H' O',(∀ (d:Nat) (k:K),callP (evP cp t fuel (d+5)) (.func 80 []) [.slice H11.n 0 3 4 0] (H11.new (.cells [F1,F2,F3])) k=k (.int 3 (A.runs [first,[(0,tx (hdr (1-a) m))],ws]).2) H')∧Step H O H' O'∧Disk H' p (A.runs [first,[(0,tx (hdr (1-a) m))],ws]).1 O':=fun hfit=>by
   obtain ⟨H',O',g1,g2,g3⟩:=run_call (H:=H11.new (.cells [F1,F2,F3])) (cp:=cp) (fuel:=fuel) (b:=H11.n) (c:=4) (s:=0) (fs:=[(F1,first),(F2,[(0,tx (hdr (1-a) m))]),(F3,ws)]) T hc (hD.fresh f12') (A:=A) (O:=O) (by
    refine ⟨ho,fun us hus => ?_, ?_,fun us hus w hw => ?_,fits_roomy hfit fun w hw => ?_⟩
    ·simp only [List.map_cons,List.map_nil,List.mem_cons,List.not_mem_nil,or_false] at hus
     rcases hus with rfl | rfl | rfl
     ·omega
     ·simp only [List.length_cons,List.length_nil];omega
     ·omega
    ·simp only [List.map_cons,List.map_nil,List.flatten_cons,List.flatten_nil,List.length_append,List.length_cons,List.length_nil]
     omega
    ·simp only [List.map_cons,List.map_nil,List.mem_cons,List.not_mem_nil,or_false] at hus
     rcases hus with rfl | rfl | rfl
     ·have:=hmem w hw;exact ⟨by omega,this.2⟩
     ·rw [List.mem_singleton.1 hw];exact ⟨by show 0<A.len;omega,hhl⟩
     ·exact ⟨(hgood w hw).1.2.1,(hgood w hw).1.2.2⟩
    ·simp only [List.map_cons,List.map_nil,List.flatten_cons,List.flatten_nil,List.append_nil,List.mem_append,List.mem_singleton] at hw
     simp only [List.mem_cons,List.mem_map,List.mem_append]
     rcases hw with hw | rfl | hw
     ·exact Or.inr ⟨w,Or.inl hw,rfl⟩
     ·exact Or.inl rfl
     ·exact Or.inr ⟨w,Or.inr hw,rfl⟩) (fun f hf=>by
    simp only [List.mem_cons,List.not_mem_nil,or_false] at hf
    rcases hf with rfl | rfl | rfl
    ·exact ⟨hA1',by show first.length<10000;omega,by show first.length<fuel;omega⟩
    ·exact ⟨hA2',by show 1<10000;omega,by show 1<fuel;omega⟩
    ·exact ⟨hA3',by show ws.length<10000;omega,by show ws.length<fuel;omega⟩) (by rw [Heap.get_new hw11,if_pos rfl];rfl) (by rw [Heap.n_new];omega) (fun h=>by have:=hD.lt _ h;have:=f11.n;omega) (by simp) (by simp only [List.length_cons,List.length_nil];omega)
   exact ⟨H',O',g1,f12'.step.trans g2,g3⟩
  obtain ⟨B10,B11,B12,v1,rfl,_⟩:=hA1
  obtain ⟨B20,B21,B22,v2,rfl,_⟩:=hA2
  obtain ⟨B30,B31,B32,v3,rfl,_⟩:=hA3
  clear hA1' hA2' hA3'
  have e1:ws.length<9223372036854775808:=by omega
  have n60:nn 60:=by unfold nn;omega
  have nl:nn ws.length:=by unfold nn;omega
  have e2:(1+(18446744073709551616-a)) % 18446744073709551616=1-a:=by omega
  have e3:m<9223372036854775808:=by omega
  have e4:bo≠H3.n:=by omega
  have e5:b≠H3.n:=by have:=f13.n;omega
  have e6:¬ m=0:=hm0
  have hb3:H3.get b = .cells (encW ws):=(f13.same b hbn).trans hb
  have e7:ws.length * 2≤(encW ws).length:=by rw [encW_length];exact Nat.le_refl _
  have e8:(encW ws).take (ws.length * 2)=encW ws:=List.take_of_length_le (by rw [encW_length];exact Nat.le_refl _)
  have e9:m * 2≤(encW first).length:=by rw [encW_length,hol];exact Nat.le_refl _
  have e10:(encW first).take (m * 2)=encW first:=List.take_of_length_le (by rw [encW_length,hol];exact Nat.le_refl _)
  have e11:m<m+ws.length:=by omega
  have e12:m+ws.length≤1073741824:=by omega
  have e13:m+ws.length<9223372036854775808:=by omega
  have e14:m-0+1=m+1:=by omega
  have hgrow:∀ {id:Nat} {G:Heap} {new:List V} {k:K},appC id 2 ws.length new bo 0 m (m+1) 0 G k=allOne id new (if m+ws.length≤1073741824 then loadN id G bo 0 (m * 2) fun l=>allOne id l (hNew G (.cells (l ++ new)) fun b' G=>k (.slice b' 0 (m+ws.length) 0 2) G) else no 0):=fun {id G new k}=>appC_grow e11
  have hal:(first ++ ws).length=m+ws.length:=by rw [List.length_append,hol]
  rw [hal] at hL
  have hm1':=fun {d:Nat} {k:K}=>hm1 (d+4) k
  have hh2':=fun {d:Nat} {k:K}=>hh2 (d+1) k
  have hr3':=fun {d:Nat} {k:K}=>hr3 (d+2) k
  have hlq:([0] ++ (first ++ ws).map (fun w:Wr=>w.1)).length=first.length+ws.length+1:=by simp only [List.length_append,List.length_map,List.length_cons,List.length_nil];omega
  rw [hlq] at hf6
  have hf6':=fun {d:Nat} {k:K}=>hf6 (d+1) k
  have ha7':=fun {d:Nat} {k:K}=>ha7 (d+5) k
  have hh8':=fun {d:Nat} {k:K}=>hh8 (d+3) k
  have ha10':=fun {d:Nat} {k:K}=>ha10 (d+5) k
  have ha11':=fun {d:Nat} {k:K}=>ha11 (d+5) k
  rw [hcm]
  by_cases hfit:A.fits (0 :: (first ++ ws).map (·.1))=true
  ·obtain ⟨H',O',g1,g2,g3⟩:=fin hfit
   rw [if_pos hfit]
   refine ⟨H',O',fun d k => ?_,g2,g3⟩
   have g1':=fun {d:Nat} {k:K}=>g1 (d+1) k
   have hfit':A.fits (0 :: (first ++ ws).map (·.1))=true:=hfit
   rw [call_entry T.k19 rfl rfl]
   simp only [go_sem,↓op_app,reduceCtorEq,Nat.reduceAdd,Nat.reduceSub,Nat.reduceMul,Nat.reduceEqDiff,Nat.reduceLT,Nat.reduceDiv,Nat.reduceMod,Nat.reduceLeDiff,↓reduceIte,c19,hr,h0,h6,e1,n60,nl,hm1',hh2',hr3',e2,e3,e6,e14,hw3,hbo2,hb3,e4,e5,e7,e8,hgrow,allOne_encW,e9,e10,e12,e13,hH4,Nat.sub_zero]
   refine hL _ _ fuel _ (.ptr p 0) (.slice b 0 ws.length c s) (.int 3 a) (.slice bo 0 m 0 2) (by omega) ?_ ?_ ?_ ?_ ?_ ?_ ?_ ?_ _ (fun e' q0 q1 q6 q11 q12 => ?_)
   ·simp only [go_sem,reduceCtorEq,↓reduceIte]
   ·simp only [go_sem,reduceCtorEq,↓reduceIte]
   ·simp only [go_sem,reduceCtorEq,↓reduceIte]
   ·simp only [go_sem,reduceCtorEq,↓reduceIte]
   ·simp only [go_sem,reduceCtorEq,↓reduceIte]
   ·simp only [go_sem,reduceCtorEq,↓reduceIte]
   ·simp only [go_sem,reduceCtorEq,↓reduceIte]
   ·simp only [go_sem,reduceCtorEq,↓reduceIte]
   ·simp only [go_sem,↓op_app,reduceCtorEq,Nat.reduceAdd,Nat.reduceSub,Nat.reduceMul,Nat.reduceEqDiff,Nat.reduceLT,Nat.reduceDiv,Nat.reduceMod,Nat.reduceLeDiff,↓reduceIte,q0,q1,q6,q11,q12,hf6',hfit',ha7',e2,e3,hh8',hw8,hH9,ha10',ha11',hw11,g1']
  ·rw [if_neg hfit]
   have hfit':A.fits (0 :: (first ++ ws).map (·.1))=false:=by
    cases h:A.fits (0 :: (first ++ ws).map (·.1)) with
    | true=>exact absurd h hfit
    | false=>rfl
   refine ⟨H6,O,fun d k => ?_,f6.step,hD.fresh f6⟩
   rw [call_entry T.k19 rfl rfl]
   simp only [go_sem,↓op_app,reduceCtorEq,Nat.reduceAdd,Nat.reduceSub,Nat.reduceMul,Nat.reduceEqDiff,Nat.reduceLT,Nat.reduceDiv,Nat.reduceMod,Nat.reduceLeDiff,↓reduceIte,c19,hr,h0,h6,e1,n60,nl,hm1',hh2',hr3',e2,e3,e6,e14,hw3,hbo2,hb3,e4,e5,e7,e8,hgrow,allOne_encW,e9,e10,e12,e13,hH4,Nat.sub_zero]
   refine hL _ _ fuel _ (.ptr p 0) (.slice b 0 ws.length c s) (.int 3 a) (.slice bo 0 m 0 2) (by omega) ?_ ?_ ?_ ?_ ?_ ?_ ?_ ?_ _ (fun e' q0 q1 q6 q11 q12 => ?_)
   ·simp only [go_sem,reduceCtorEq,↓reduceIte]
   ·simp only [go_sem,reduceCtorEq,↓reduceIte]
   ·simp only [go_sem,reduceCtorEq,↓reduceIte]
   ·simp only [go_sem,reduceCtorEq,↓reduceIte]
   ·simp only [go_sem,reduceCtorEq,↓reduceIte]
   ·simp only [go_sem,reduceCtorEq,↓reduceIte]
   ·simp only [go_sem,reduceCtorEq,↓reduceIte]
   ·simp only [go_sem,reduceCtorEq,↓reduceIte]
   ·simp only [go_sem,↓op_app,reduceCtorEq,Nat.reduceAdd,Nat.reduceSub,Nat.reduceMul,Nat.reduceEqDiff,Nat.reduceLT,Nat.reduceDiv,Nat.reduceMod,Nat.reduceLeDiff,↓reduceIte,q0,q1,q6,q11,q12,hf6',hfit']
end
end Go.Ev
end
section
namespace Go.Ev
theorem enc_drop:∀ (l:List UInt8) (i:Nat),enc l >>> (8 * i)=enc (l.drop i)
 | l,0=>by simp
 | [],i+1=>by simp [enc]
 | x :: l,i+1=>by
  have hx:=x.toNat_lt
  rw [List.drop_succ_cons,← enc_drop l i,show 8 * (i+1)=8+8 * i by omega,Nat.shiftRight_add]
  congr 1
  rw [Nat.shiftRight_eq_div_pow]
  simp only [enc]
  omega
theorem enc_take (l:List UInt8) (n:Nat) (h:n≤l.length):enc l % 256 ^ n=enc (l.take n):=by
 have h1:=enc_append (l.take n) (l.drop n)
 have h2:=enc_lt (l.take n)
 rw [List.take_append_drop,List.length_take,Nat.min_eq_left h] at h1
 rw [List.length_take,Nat.min_eq_left h] at h2
 rw [h1,Nat.mul_comm,Nat.add_mul_mod_self_left,Nat.mod_eq_of_lt h2]
theorem drop_more {all a rest:List UInt8} {pos:Nat} (h:all.drop pos=a ++ rest):all.drop (pos+a.length)=rest:=by
 rw [← List.drop_drop,h,List.drop_left]
section
variable {cp:RC→CodeE} {t:Nat→Option FnE} {fuel:Nat} {H:Heap}
theorem text_call (T:TCode t) {d r b pos:Nat} {k:K} {all x rest:List UInt8} (hw:H.wf) (hr:H.get r=rdBlk b all pos) (hrn:r<H.n) (hb:H.get b = .bytes all.length (enc all)) (hbr:b≠r) (hlen:all.length<1000000) (hd:all.drop pos=pnum x.length ++ (x ++ rest)) (hfu:8<fuel) :
  callP (evP cp t fuel (d+3)) (.func 140 []) [.ptr r 0] H k=k (tv x) (H.put r (rdBlk b all (pos+(pnum x.length ++ x).length))):=by
 have hx:=congrArg List.length hd
 simp only [List.length_drop,List.length_append] at hx
 have hd2:=drop_more hd
 have hp1:1≤(pnum x.length).length:=by simp [pnum]
 have hpos:pos+(pnum x.length).length+x.length≤all.length:=by omega
 have h1:∀ {k:K},callP (evP cp t fuel (d+2)) (.func 100 []) [.ptr r 0] H k=k (.int 7 x.length) (H.put r (rdBlk b all (pos+(pnum x.length).length))):=fun {k}=>num_call T hw hr hrn hb hbr hlen (by omega) hd hfu
 have h2:∀ {k:K},callP (evP cp t fuel (d+2)) (.func 144 []) [.ptr r 0, .int 7 x.length] (H.put r (rdBlk b all (pos+(pnum x.length).length))) k=k (.slice b (pos+(pnum x.length).length) x.length (x.length+1) 0) (H.put r (rdBlk b all (pos+(pnum x.length ++ x).length))):=fun {k}=>by
  rw [take_call T (by rw [Heap.wf_put];exact hw) (by rw [Heap.get_put hw hrn,if_pos rfl]) (by rw [Heap.n_put];exact hrn) hlen (by omega),Heap.put_put,List.length_append,Nat.add_assoc]
 have hb2:(H.put r (rdBlk b all (pos+(pnum x.length ++ x).length))).get b = .bytes all.length (enc all):=by rw [Heap.get_put hw hrn,if_neg hbr];exact hb
 have h3:enc all >>> (8 * (pos+(pnum x.length).length)) % 256 ^ x.length=enc x:=by
  rw [enc_drop,hd2,enc_take _ _ (by rw [List.length_append];omega),List.take_left]
 generalize H.put r (rdBlk b all (pos+(pnum x.length ++ x).length))=G at h2 hb2 ⊢
 rw [show tv x = .str x.length (enc x) from rfl,call_entry T.k70 rfl rfl]
 simp only [go_sem,↓op_app,reduceCtorEq,Nat.reduceAdd,Nat.reduceSub,Nat.reduceMul,Nat.reduceEqDiff,Nat.reduceLT,Nat.reduceDiv,Nat.reduceMod,Nat.reduceLeDiff,↓reduceIte,c70,h1,h2,hb2,hpos,h3]
theorem end_call (T:TCode t) {d r b:Nat} {k:K} {all:List UInt8} (hr:H.get r=rdBlk b all all.length) :
  callP (evP cp t fuel (d+2)) (.func 142 []) [.ptr r 0] H k=k (.bool true) H:=by
 have h1:∀ {k:K},callP (evP cp t fuel (d+1)) (.func 102 []) [.ptr r 0] H k=k (.bool true) H:=fun {k}=>ok_call T hr
 have e1:(0:Nat)<9223372036854775808:=by omega
 unfold rdBlk at hr
 rw [call_entry T.k71 rfl rfl]
 simp only [go_sem,↓op_app,reduceCtorEq,Nat.reduceAdd,Nat.reduceSub,Nat.reduceMul,Nat.reduceEqDiff,Nat.reduceLT,Nat.reduceDiv,Nat.reduceMod,Nat.reduceLeDiff,↓reduceIte,c71,h1,hr,Nat.sub_self]
set_option maxRecDepth 4000 in
set_option maxHeartbeats 1000000 in
theorem jwrites_loop (T:TCode t) {b r n:Nat} {text:List UInt8} {all:List Wr} (hfu:8<fuel) (hlen:text.length<1000000) (hn:n=all.length) (hnb:n<10000) (hb0:H.get b = .bytes text.length (enc text)) (hbn:b<H.n) (hall:∀ w ∈ all,w.1≤1024∧w.2.1≤1000∧okT w.2) :
  ∀ (ws pre:List Wr) (G:Heap) (vo:V) (pos:Nat),all=pre ++ ws→Fresh H G→Grows H G vo pre→text.drop pos=recL ws→pos≤text.length→G.get r=rdBlk b text pos→H.n≤r→r<G.n→(∀ bo l c s z,vo = .slice bo l c s z→r≠bo) →
  ∃ G' vo',Fresh H G'∧Grows H G' vo' all∧G'.get r=rdBlk b text text.length∧r<G'.n ∧ ∀ (d:Nat) (kx:Nat→KE) (rr:Nat) (e:Env),ws.length<rr→pget ⟨.i0, .i0, .i4⟩ e = .ptr r 0→pget ⟨.i0, .i0, .i6⟩ e=vo→pget ⟨.i0, .i2, .i2⟩ e = .int 7 n→pget ⟨.i0, .i2, .i3⟩ e = .int 7 pre.length →
   ∀ x:R,(∀ e',pget ⟨.i0, .i0, .i4⟩ e' = .ptr r 0→pget ⟨.i0, .i0, .i6⟩ e'=vo'→kx 1 e' G'=x) →
   evL c47l0 fuel (evP cp t fuel (d+3)) kx rr e G=x:=by
 intro ws
 induction ws with
 | nil=>
  intro pre G vo pos hal f hg hd hpl hr hr1 hr2 hbo
  have hal':all=pre:=by rw [hal,List.append_nil]
  rw [← hal'] at hg
  have hpe:pos=text.length:=by
   have:=congrArg List.length hd
   simp only [recL,List.flatMap_nil,List.length_drop,List.length_nil] at this
   omega
  rw [hpe] at hr
  refine ⟨G,vo,f,hg,hr,hr2,fun d kx rr e hrr h4 h6 h22 h23 x hT => ?_⟩
  obtain ⟨rr,rfl⟩:∃ q,rr=q+1:=⟨rr-1,by simp only [List.length_nil] at hrr;omega⟩
  have hi:pre.length=n:=by rw [hn,hal']
  have e1:(evCF (.lt 0 18446744073709551616) n n=true)=False:=by rw [lt_un (by omega) (by omega)];exact propext ⟨fun h=>by omega,False.elim⟩
  rw [evL_succ]
  rw [hi] at h23
  simp only [go_sem,↓op_app,reduceCtorEq,Nat.reduceAdd,Nat.reduceSub,Nat.reduceMul,Nat.reduceEqDiff,Nat.reduceLT,Nat.reduceDiv,Nat.reduceMod,Nat.reduceLeDiff,↓reduceIte,c47l0,h4,h6,h22,h23,e1]
  exact hT _ (by simp only [go_sem,reduceCtorEq,↓reduceIte,h4]) (by simp only [go_sem,reduceCtorEq,↓reduceIte,h6])
 | cons w ws ih=>
  intro pre G vo pos hal f hg hd hpl hr hr1 hr2 hbo
  have hw:=f.wf
  obtain ⟨hw1,hw2,hw3⟩:=hall w (by rw [hal];simp)
  have hlt:pre.length<n:=by rw [hn,hal];simp only [List.length_append,List.length_cons];omega
  have e1:(evCF (.lt 0 18446744073709551616) pre.length n=true)=True:=by rw [lt_un (by omega) (by omega)];exact eq_true hlt
  have e2:(evCF (.gt 0 18446744073709551616) w.1 1024=true)=False:=by rw [gt_un (by omega) (by omega)];exact propext ⟨fun h=>by omega,False.elim⟩
  have e3:w.1 % 18446744073709551616=w.1:=by omega
  have e9:(pre.length+1) % 18446744073709551616=pre.length+1:=by omega
  have hbr:b≠r:=by omega
  have hbG:G.get b = .bytes text.length (enc text):=(f.same b hbn).trans hb0
  have hd1:text.drop pos=pnum w.1 ++ (pnum (wtx w).length ++ (wtx w ++ recL ws)):=by
   rw [hd,wtx_length]
   simp only [recL,List.flatMap_cons,rec1,List.append_assoc]
  have h1:∀ {d:Nat} {k:K},callP (evP cp t fuel (d+2)) (.func 100 []) [.ptr r 0] G k=k (.int 7 w.1) (G.put r (rdBlk b text (pos+(pnum w.1).length))):=fun {d k}=>num_call T hw hr hr2 hbG hbr hlen (by omega) hd1 hfu
  have hd2:=drop_more hd1
  generalize hp2:pos+(pnum w.1).length=pos2 at h1 hd2
  have hd3:text.drop (pos2+(pnum (wtx w).length ++ wtx w).length)=recL ws:=by
   rw [← List.append_assoc] at hd2
   exact drop_more hd2
  have h2:∀ {d:Nat} {k:K},callP (evP cp t fuel (d+3)) (.func 140 []) [.ptr r 0] (G.put r (rdBlk b text pos2)) k=k (.str w.2.1 w.2.2) (G.put r (rdBlk b text (pos2+(pnum (wtx w).length ++ wtx w).length))):=fun {d k}=>by
   rw [← tv_wtx hw3,text_call T (by rw [Heap.wf_put];exact hw) (by rw [Heap.get_put hw hr2,if_pos rfl]) (by rw [Heap.n_put];exact hr2) (by rw [Heap.get_put hw hr2,if_neg hbr];exact hbG) hbr hlen hd2 hfu,Heap.put_put]
  have hpl3:pos2+(pnum (wtx w).length ++ wtx w).length≤text.length:=by
   have:=congrArg List.length hd2
   simp only [List.length_drop,List.length_append] at this ⊢
   have hp1:1≤(pnum (wtx w).length).length:=by simp [pnum]
   omega
  generalize pos2+(pnum (wtx w).length ++ wtx w).length=pos3 at h2 hd3 hpl3
  have fG3:Fresh H (G.put r (rdBlk b text pos3)):=Fresh.put f hr1 hr2
  have g3w:=fG3.wf
  have g3n:(G.put r (rdBlk b text pos3)).n=G.n:=Heap.n_put
  have g3r:(G.put r (rdBlk b text pos3)).get r=rdBlk b text pos3:=by rw [Heap.get_put hw hr2,if_pos rfl]
  have e20:2≤2:=Nat.le_refl _
  have e21:(1:Nat)≤1073741824:=by omega
  rcases hg with ⟨rfl,ho⟩ | ⟨bo,rfl,ho,hbo2,hbo3,hbo4⟩
  ·subst ho
   generalize hG3:G.put r (rdBlk b text pos3)=G3 at h2 fG3 g3w g3n g3r
   have f2:Fresh H ((G3.new (.cells [.int 3 w.1, .str w.2.1 w.2.2])).new (.cells [.int 3 w.1, .str w.2.1 w.2.2])):=(fG3.trans (Fresh.new g3w)).trans (Fresh.new (by rw [Heap.wf_new];exact g3w))
   have gn:((G3.new (.cells [.int 3 w.1, .str w.2.1 w.2.2])).new (.cells [.int 3 w.1, .str w.2.1 w.2.2])).n=G.n+1+1:=by simp only [Heap.n_new,g3n]
   obtain ⟨G',vo',f',hg',hr',hr2',hG'⟩:=ih [w] _ (.slice (G.n+1) 0 1 0 2) pos3 (by rw [hal];simp) f2 (by
     refine Or.inr ⟨G.n+1,rfl,by simp, ?_,by have:=f.n;omega,by rw [gn];omega⟩
     rw [Heap.get_new (by rw [Heap.wf_new];exact g3w),if_pos (by rw [Heap.n_new,g3n])]
     rfl) hd3 hpl3 (by rw [Heap.get_new (by rw [Heap.wf_new];exact g3w),if_neg (by rw [Heap.n_new,g3n];omega),Heap.get_new g3w,if_neg (by rw [g3n];omega)];exact g3r) hr1 (by rw [gn];omega) (fun bo l c s z he=>by cases he;omega)
   refine ⟨G',vo',f',hg',hr',hr2',fun d kx rr e hrr h4 h6 h22 h23 x hT => ?_⟩
   obtain ⟨rr,rfl⟩:∃ q,rr=q+1:=⟨rr-1,by omega⟩
   have h1':=fun {k:K}=>h1 (d:=d+1) (k:=k)
   rw [evL_succ]
   simp only [List.length_nil,Nat.zero_add] at h23 e1 e9
   simp only [go_sem,↓op_app,reduceCtorEq,Nat.reduceAdd,Nat.reduceSub,Nat.reduceMul,Nat.reduceEqDiff,Nat.reduceLT,Nat.reduceDiv,Nat.reduceMod,Nat.reduceLeDiff,↓reduceIte,c47l0,h4,h6,h22,h23,e1,e2,e3,h1',h2,g3w,g3n,e20,e21]
   refine hG' d kx rr _ (by simp only [List.length_cons] at hrr;omega) ?_ ?_ ?_ ?_ x hT <;> simp only [go_sem,reduceCtorEq,↓reduceIte,h4,h6,h22,h23]
  ·have hrb:¬ bo=r:=fun h=>hbo bo _ _ _ _ rfl h.symm
   have g3o:(G.put r (rdBlk b text pos3)).get bo = .cells (encW pre):=by rw [Heap.get_put hw hr2,if_neg hrb];exact hbo2
   generalize hG3:G.put r (rdBlk b text pos3)=G3 at h2 fG3 g3w g3n g3r g3o
   have e4:¬ bo=G.n:=by omega
   have e5:bo<G.n+1:=by omega
   have e6:pre.length+1≤1073741824:=by omega
   have e7:(encW pre).length=pre.length * 2:=encW_length pre
   have w1:((G3.new (.cells [.int 3 w.1, .str w.2.1 w.2.2])).put bo .dead).wf:=by simp only [Heap.wf_put,Heap.wf_new,g3w]
   have n1:((G3.new (.cells [.int 3 w.1, .str w.2.1 w.2.2])).put bo .dead).n=G.n+1:=by simp only [Heap.n_new,Heap.n_put,g3n]
   have f2:Fresh H (((G3.new (.cells [.int 3 w.1, .str w.2.1 w.2.2])).put bo .dead).new (.cells (encW pre ++ [.int 3 w.1, .str w.2.1 w.2.2]))):=(Fresh.put (fG3.trans (Fresh.new g3w)) hbo3 (by rw [Heap.n_new,g3n];omega)).trans (Fresh.new w1)
   have gn:(((G3.new (.cells [.int 3 w.1, .str w.2.1 w.2.2])).put bo .dead).new (.cells (encW pre ++ [.int 3 w.1, .str w.2.1 w.2.2]))).n=G.n+1+1:=by rw [Heap.n_new,n1]
   obtain ⟨G',vo',f',hg',hr',hr2',hG'⟩:=ih (pre ++ [w]) _ (.slice (G.n+1) 0 (pre.length+1) 0 2) pos3 (by rw [hal];simp) f2 (by
     refine Or.inr ⟨G.n+1,by simp,by simp, ?_,by have:=f.n;omega,by rw [gn];omega⟩
     rw [Heap.get_new w1,if_pos n1.symm,encW_append]
     rfl) hd3 hpl3 (by rw [Heap.get_new w1,if_neg (by rw [n1];omega),Heap.get_put (by rw [Heap.wf_new];exact g3w) (by rw [Heap.n_new,g3n];omega),if_neg (fun h=>hrb h.symm),Heap.get_new g3w,if_neg (by rw [g3n];omega)];exact g3r) hr1 (by rw [gn];omega) (fun bo l c s z he=>by cases he;omega)
   refine ⟨G',vo',f',hg',hr',hr2',fun d kx rr e hrr h4 h6 h22 h23 x hT => ?_⟩
   obtain ⟨rr,rfl⟩:∃ q,rr=q+1:=⟨rr-1,by omega⟩
   have h1':=fun {k:K}=>h1 (d:=d+1) (k:=k)
   rw [evL_succ]
   simp only [go_sem,↓op_app,reduceCtorEq,Nat.reduceAdd,Nat.reduceSub,Nat.reduceMul,Nat.reduceEqDiff,Nat.reduceLT,Nat.reduceDiv,Nat.reduceMod,Nat.reduceLeDiff,↓reduceIte,c47l0,h4,h6,h22,h23,e1,e2,e3,e9,h1',h2,g3w,g3n,g3o,e20,e21,e4,e5,e6,e7]
   refine hG' d kx rr _ (by simp only [List.length_cons] at hrr;omega) ?_ ?_ ?_ ?_ x hT <;> simp only [go_sem,↓op_app,reduceCtorEq,Nat.reduceAdd,Nat.reduceSub,Nat.reduceMul,Nat.reduceEqDiff,Nat.reduceLT,Nat.reduceDiv,Nat.reduceMod,Nat.reduceLeDiff,↓reduceIte,h4,h6,h22,h23,List.length_append]
theorem jwrites_call (T:TCode t) {ws:List Wr} (hw:H.wf) (hr:RecOK ws) (h0:ws≠[]) (hat:∀ w ∈ ws,w.1≤1024) (hfu:100<fuel) :
  ∃ H' vo,(∀ (d:Nat) (k:K),callP (evP cp t fuel (d+4)) (.func 94 []) [tv (recT ws)] H k=k (.tup [vo, .bool true]) H')∧Fresh H H'∧Grows H H' vo ws:=by
 have htl:=hr.text
 have hnum:=hr.num
 have hn0:0<ws.length:=List.length_pos_iff.2 h0
 have hnr:∀ {d:Nat} {k:K},callP (evP cp t fuel (d+1)) (.func 98 []) [tv (recT ws)] H k=k (.ptr (H.n+1) 0) ((H.new (.bytes (recT ws).length (enc (recT ws)))).new (rdBlk H.n (recT ws) 0)):=fun {d k}=>newReader_call T hw (by omega)
 have hd1:(recT ws).drop 0=pnum ws.length ++ recL ws:=rfl
 have hd2:=drop_more hd1
 have hpl:0+(pnum ws.length).length≤(recT ws).length:=by simp only [recT,List.length_append];omega
 generalize recT ws=text at htl hnr hd1 hd2 hpl ⊢
 have hw1:(H.new (.bytes text.length (enc text))).wf:=by rw [Heap.wf_new];exact hw
 have fb:Fresh H (H.new (.bytes text.length (enc text))):=Fresh.new hw
 have hbn:(H.new (.bytes text.length (enc text))).n=H.n+1:=Heap.n_new
 have hbb:(H.new (.bytes text.length (enc text))).get H.n = .bytes text.length (enc text):=by rw [Heap.get_new hw,if_pos rfl]
 generalize H.new (.bytes text.length (enc text))=Hb at hnr hw1 fb hbn hbb
 have fG:Fresh Hb (Hb.new (rdBlk H.n text 0)):=Fresh.new hw1
 have gr:(Hb.new (rdBlk H.n text 0)).get (H.n+1)=rdBlk H.n text 0:=by rw [Heap.get_new hw1,if_pos hbn.symm]
 have gb:(Hb.new (rdBlk H.n text 0)).get H.n = .bytes text.length (enc text):=by rw [Heap.get_new hw1,if_neg (by omega)];exact hbb
 have gn:(Hb.new (rdBlk H.n text 0)).n=H.n+1+1:=by rw [Heap.n_new,hbn]
 generalize Hb.new (rdBlk H.n text 0)=G at hnr fG gr gb gn
 have gw:=fG.wf
 have hrn:H.n+1<G.n:=by omega
 have hne:H.n≠H.n+1:=by omega
 have hn1:∀ {d:Nat} {k:K},callP (evP cp t fuel (d+2)) (.func 100 []) [.ptr (H.n+1) 0] G k=k (.int 7 ws.length) (G.put (H.n+1) (rdBlk H.n text (0+(pnum ws.length).length))):=fun {d k}=>num_call T gw gr hrn gb hne (by omega) (by omega) hd1 (by omega)
 generalize 0+(pnum ws.length).length=pos at hn1 hd2 hpl
 have fG2:Fresh Hb (G.put (H.n+1) (rdBlk H.n text pos)):=Fresh.put fG (by omega) hrn
 obtain ⟨G',vo',f',hg',hr',hr2',hL⟩:=jwrites_loop (H:=Hb) (cp:=cp) (fuel:=fuel) (b:=H.n) (r:=H.n+1) (n:=ws.length) (text:=text) (all:=ws) T (by omega) (by omega) rfl (by omega) hbb (by omega) (fun w hw=>⟨hat w hw,by have:=hr.len w hw;omega,hr.ok w hw⟩) ws [] (G.put (H.n+1) (rdBlk H.n text pos)) .nils pos rfl fG2 (Or.inl ⟨rfl,rfl⟩) hd2 hpl (by rw [Heap.get_put gw hrn,if_pos rfl]) (by omega) (by rw [Heap.n_put];omega) (fun bo l c s z he=>by cases he)
 have he:∀ {d:Nat} {k:K},callP (evP cp t fuel (d+2)) (.func 142 []) [.ptr (H.n+1) 0] G' k=k (.bool true) G':=fun {d k}=>end_call T hr'
 refine ⟨G',vo',fun d k => ?_,fb.trans f', ?_⟩
 ·have e1:(evCF (.lt 0 18446744073709551616) ws.length 1=true)=False:=by rw [lt_un (by omega) (by omega)];exact propext ⟨fun h=>by omega,False.elim⟩
  have e2:(evCF (.gt 0 18446744073709551616) ws.length 60=true)=False:=by rw [gt_un (by omega) (by omega)];exact propext ⟨fun h=>by omega,False.elim⟩
  rw [call_entry T.k47 rfl rfl]
  rw [show tv text = .str text.length (enc text) from rfl] at hnr ⊢
  simp only [go_sem,↓op_app,reduceCtorEq,Nat.reduceAdd,Nat.reduceSub,Nat.reduceMul,Nat.reduceEqDiff,Nat.reduceLT,Nat.reduceDiv,Nat.reduceMod,Nat.reduceLeDiff,↓reduceIte,c47,hnr,hn1,e1,e2]
  refine hL d _ fuel _ (by omega) ?_ ?_ ?_ ?_ _ (fun e' g4 g6 => ?_)
  ·simp only [go_sem,reduceCtorEq,↓reduceIte]
  ·simp only [go_sem,reduceCtorEq,↓reduceIte]
  ·simp only [go_sem,reduceCtorEq,↓reduceIte]
  ·simp only [go_sem,reduceCtorEq,↓reduceIte]
  ·simp only [go_sem,↓op_app,reduceCtorEq,Nat.reduceAdd,Nat.reduceSub,Nat.reduceMul,Nat.reduceEqDiff,Nat.reduceLT,Nat.reduceDiv,Nat.reduceMod,Nat.reduceLeDiff,↓reduceIte,g4,g6,he]
 ·rcases hg' with h | ⟨bo,q1,q2,q3,q4,q5⟩
  ·exact Or.inl h
  ·exact Or.inr ⟨bo,q1,q2,q3,by omega,q5⟩
end
end Go.Ev
end
section
namespace Go.Ev
theorem tv_inj {a b:List UInt8} (h:tv a=tv b):a=b:=by
 simp only [tv,V.str.injEq] at h
 rw [← sbytes_enc a,← sbytes_enc b,h.1,h.2]
theorem map_tv_inj:∀ {a b:List (List UInt8)},a.map tv=b.map tv→a=b
 | [],[],_=>rfl
 | [],_ :: _,h=>by cases h
 | _ :: _,[],h=>by cases h
 | x :: a,y :: b,h=>by
  simp only [List.map_cons,List.cons.injEq] at h
  rw [tv_inj h.1,map_tv_inj h.2]
open Classical in
noncomputable def nUnpack (unpk:List (List UInt8)→Option (List UInt8)) (args:List V) (H:Heap) (k:K):R:=
 match args with
 | [.slice b 0 n _ _]=>if h:∃ ls:List (List UInt8),H.get b = .cells (ls.map tv)∧ls.length=n∧n≤1000∧(∀ x ∈ ls,x.length≤1000)∧(unpk ls).isSome=true then k (.tup [tv ((unpk h.choose).getD []), .int 3 0]) H else no 0
 | _=>no 0
open Classical in
theorem nUnpack_eq {unpk:List (List UInt8)→Option (List UInt8)} {b n c s:Nat} {H:Heap} {k:K} {ls:List (List UInt8)} {t:List UInt8} (hb:H.get b = .cells (ls.map tv)) (hn:ls.length=n) (h1:n≤1000) (h2:∀ x ∈ ls,x.length≤1000) (hu:unpk ls=some t) :
  nUnpack unpk [.slice b 0 n c s] H k=k (.tup [tv t, .int 3 0]) H:=by
 have hex:∃ ls:List (List UInt8),H.get b = .cells (ls.map tv)∧ls.length=n∧n≤1000∧(∀ x ∈ ls,x.length≤1000)∧(unpk ls).isSome=true:=⟨ls,hb,hn,h1,h2,by rw [hu];rfl⟩
 have hs:=hex.choose_spec
 have he:hex.choose=ls:=by
  have:=hs.1.symm.trans hb
  simp only [Blk.cells.injEq] at this
  exact map_tv_inj this
 show (if h:_ then _ else _)=_
 rw [dif_pos hex,he,hu]
 rfl
def GrowsS (H G:Heap) (v:V) (ss:List Tx):Prop:=(v = .nils∧ss=[]) ∨ ∃ b,v = .slice b 0 ss.length 0 1∧ss≠[]∧G.get b = .cells (ss.map sv)∧H.n≤b∧b<G.n
theorem GrowsS.one {H G:Heap} {v:V} {ss:List Tx} (h:GrowsS H G v ss):True:=trivial
section
variable {cp:RC→CodeE} {t:Nat→Option FnE} {fuel:Nat} {H:Heap}
theorem format_call (T:TCode t) (hc:HasClone t) {p:Nat} {A:AD} {O:Nat→Prop} (hD:Disk H p A O) (ho:A.off=false) (hl:145<A.len) (hl2:A.len≤1024) (he:A.es.length<100000) (hu:A.us.length<50000) (hroom:(find A.es 0).isSome=true∨A.es.length<A.room) (hfu:10<fuel) :
  ∃ H' O',(∀ (d:Nat) (k:K),callP (evP cp t fuel (d+7)) (.func 60 []) [.ptr p 0] H k=k (.int 3 (A.runs [[(0,tx (hdr 0 0))]]).2) H')∧Step H O H' O'∧Disk H' p (A.runs [[(0,tx (hdr 0 0))]]).1 O':=by
 have hw:=hD.wf
 have hr:∀ {d:Nat} {k:K},callP (evP cp t fuel (d+3)) (.func 70 []) [.ptr p 0] H k=k (.int 3 0) H:=fun {d k}=>by
  rw [ready_call T hc hD,ho]
  rfl
 have hL:∀ {d:Nat} {k:K},callP (evP cp t fuel (d+1)) (.func 58 []) [.ptr p 0] H k=k (.int 3 A.len) H:=fun {d k}=>len_all (T.disk4 hc) hD
 obtain ⟨H8,hh8,f8⟩:=header_call (cp:=cp) (fuel:=fuel) T (a:=0) (n:=0) hw (by omega) (by omega) (by omega)
 have hw8:=f8.wf
 have hhl:=hdr_length 0 0
 rw [show tv (hdr 0 0) = .str 32 (enc (hdr 0 0)) by rw [tv,hhl]] at hh8
 have f89:Fresh H8 (H8.new (.cells [.int 3 0, .str 32 (enc (hdr 0 0))])):=Fresh.new hw8
 have h9b:(H8.new (.cells [.int 3 0, .str 32 (enc (hdr 0 0))])).get H8.n = .cells [.int 3 0, .str 32 (enc (hdr 0 0))]:=by rw [Heap.get_new hw8,if_pos rfl]
 have h9n:(H8.new (.cells [.int 3 0, .str 32 (enc (hdr 0 0))])).n=H8.n+1:=Heap.n_new
 generalize hH9:H8.new (.cells [.int 3 0, .str 32 (enc (hdr 0 0))])=H9 at f89 h9b h9n
 have f9:=f8.trans f89
 have hhd:WsAt H9 (.slice H8.n 0 1 2 0) [(0,tx (hdr 0 0))] O:=Or.inr ⟨H8.n,2,0,rfl,by rw [h9b];simp only [encW,List.flatMap_cons,List.flatMap_nil,encW1,tx,hhl,List.append_nil],by omega,fun h=>by have:=hD.lt _ h;have:=f8.n;omega⟩
 obtain ⟨H10,F2,ha10,f910,hA2⟩:=all_call (cp:=cp) (fuel:=fuel) T (p:=p) f9.wf (fun x hx=>Nat.lt_of_lt_of_le (hD.lt x hx) f9.n) hhd
 have f10:=f9.trans f910
 have hw10:=f10.wf
 have f11:Fresh H10 (H10.new (.cells [F2])):=Fresh.new hw10
 have hA2':=hA2.keep f11.step
 have f12:=f10.trans f11
 obtain ⟨H',O',g1,g2,g3⟩:=run_call (H:=H10.new (.cells [F2])) (cp:=cp) (fuel:=fuel) (b:=H10.n) (c:=2) (s:=0) (fs:=[(F2,[(0,tx (hdr 0 0))])]) T hc (hD.fresh f12) (A:=A) (O:=O) (by
  refine ⟨ho,fun us hus => ?_, ?_,fun us hus w hw => ?_, ?_⟩
  ·simp only [List.map_cons,List.map_nil,List.mem_cons,List.not_mem_nil,or_false] at hus
   subst hus
   simp only [List.length_cons,List.length_nil];omega
  ·simp only [List.map_cons,List.map_nil,List.flatten_cons,List.flatten_nil,List.length_append,List.length_cons,List.length_nil]
   omega
  ·simp only [List.map_cons,List.map_nil,List.mem_cons,List.not_mem_nil,or_false] at hus
   subst hus
   rw [List.mem_singleton.1 hw];exact ⟨by show 0<A.len;omega,hhl⟩
  ·exact ⟨hroom,trivial⟩) (fun f hf=>by
  simp only [List.mem_cons,List.not_mem_nil,or_false] at hf
  subst hf
  exact ⟨hA2',by show 1<10000;omega,by show 1<fuel;omega⟩) (by rw [Heap.get_new hw10,if_pos rfl];rfl) (by rw [Heap.n_new];omega) (fun h=>by have:=hD.lt _ h;have:=f10.n;omega) (by simp) (by simp only [List.length_cons,List.length_nil];omega)
 obtain ⟨B20,B21,B22,v2,rfl,_⟩:=hA2
 clear hA2'
 have n145:nn 145:=by unfold nn;omega
 have nl:nn A.len:=by unfold nn;omega
 have e1:¬ A.len≤145:=by omega
 refine ⟨H',O',fun d k => ?_,f12.step.trans g2,g3⟩
 have hh8':=fun {d:Nat} {k:K}=>hh8 (d+3) k
 have ha10':=fun {d:Nat} {k:K}=>ha10 (d+5) k
 have g1':=fun {d:Nat} {k:K}=>g1 (d+1) k
 simp only [List.map_cons,List.map_nil,List.length_cons,List.length_nil] at g1'
 rw [call_entry T.k30 rfl rfl]
 simp only [go_sem,↓op_app,reduceCtorEq,Nat.reduceAdd,Nat.reduceSub,Nat.reduceMul,Nat.reduceEqDiff,Nat.reduceLT,Nat.reduceDiv,Nat.reduceMod,Nat.reduceLeDiff,↓reduceIte,c30,hr,hL,n145,nl,e1,hh8',hw8,hH9,ha10',hw10,g1']
set_option maxRecDepth 4000 in
theorem recover_loop (T:TCode t) (hc:HasClone t) {p a n:Nat} {A:AD} {O:Nat→Prop} (hD:Disk H p A O) (ho:A.off=false) (hl:145≤A.len) (ha:a<2) (hn:n≤72) :
  ∀ (m i:Nat) (G:Heap) (vo:V),i+m=n→Fresh H G→GrowsS H G vo ((List.range i).map fun j=>A.read (1+a * 72+j)) →
  ∃ G' vo',Fresh H G'∧GrowsS H G' vo' ((List.range n).map fun j=>A.read (1+a * 72+j)) ∧ ∀ (d:Nat) (kx:Nat→KE) (rr:Nat) (e:Env),m<rr→pget ⟨.i0, .i0, .i0⟩ e = .ptr p 0→pget ⟨.i0, .i0, .i4⟩ e = .int 3 a→pget ⟨.i0, .i0, .i7⟩ e=vo→pget ⟨.i0, .i4, .i0⟩ e = .int 3 n→pget ⟨.i0, .i4, .i1⟩ e = .int 3 i →
   ∀ x:R,(∀ e',pget ⟨.i0, .i0, .i0⟩ e' = .ptr p 0→pget ⟨.i0, .i0, .i7⟩ e'=vo'→kx 1 e' G'=x) →
   evL c26l0 fuel (evP cp t fuel (d+3)) kx rr e G=x:=by
 intro m
 induction m with
 | zero=>
  intro i G vo hi f hg
  have hi':i=n:=by omega
  subst hi'
  refine ⟨G,vo,f,hg,fun d kx rr e hrr h0 h4 h7 h40 h41 x hT => ?_⟩
  obtain ⟨rr,rfl⟩:∃ q,rr=q+1:=⟨rr-1,by omega⟩
  have e1:¬ i<i:=by omega
  have e2:nn i:=by unfold nn;omega
  rw [evL_succ]
  simp only [go_sem,↓op_app,reduceCtorEq,Nat.reduceAdd,Nat.reduceSub,Nat.reduceMul,Nat.reduceEqDiff,Nat.reduceLT,Nat.reduceDiv,Nat.reduceMod,Nat.reduceLeDiff,↓reduceIte,c26l0,h0,h4,h7,h40,h41,e1,e2]
  exact hT _ (by simp only [go_sem,reduceCtorEq,↓reduceIte,h0]) (by simp only [go_sem,reduceCtorEq,↓reduceIte,h7])
 | succ m ih=>
  intro i G vo hi f hg
  have hlt:i<n:=by omega
  have e1:nn i:=by unfold nn;omega
  have e2:nn n:=by unfold nn;omega
  have e9:(i+1) % 18446744073709551616=i+1:=by omega
  have hat:∀ {d:Nat} {k:K} {G:Heap},callP (evP cp t fuel (d+1)) (.func 90 []) [.int 3 a, .int 3 i] G k=k (.int 3 (1+a * 72+i)) G:=fun {d k G}=>at_call' T ha (by omega)
  obtain ⟨G2,hr2,f2⟩:=read_all (cp:=cp) (fuel:=fuel) (T.disk4 hc) (hD.fresh f) ho (a:=1+a * 72+i) (by omega)
  have fG2:=f.trans f2
  have gw:=fG2.wf
  have hrs:(List.range (i+1)).map (fun j=>A.read (1+a * 72+j))=(List.range i).map (fun j=>A.read (1+a * 72+j)) ++ [A.read (1+a * 72+i)]:=by rw [List.range_succ,List.map_append];rfl
  have hrl:((List.range i).map fun j=>A.read (1+a * 72+j)).length=i:=by simp
  have e21:(1:Nat)≤1073741824:=by omega
  generalize hgn:(List.range i).map (fun j=>A.read (1+a * 72+j))=ss at hg hrs hrl
  generalize A.read (1+a * 72+i)=q at hr2 hrs
  obtain ⟨ql,qn⟩:=q
  simp only [sv] at hr2
  rcases hg with ⟨rfl,hs0⟩ | ⟨bo,rfl,hs0,hbo2,hbo3,hbo4⟩
  ·subst hs0
   have hi0:i=0:=by rw [← hrl];rfl
   have f3:Fresh H ((G2.new (.cells [.str ql qn])).new (.cells [.str ql qn])):=(fG2.trans (Fresh.new gw)).trans (Fresh.new (by rw [Heap.wf_new];exact gw))
   have gn:((G2.new (.cells [.str ql qn])).new (.cells [.str ql qn])).n=G2.n+1+1:=by simp only [Heap.n_new]
   obtain ⟨G',vo',f',hg',hG'⟩:=ih (i+1) _ (.slice (G2.n+1) 0 1 0 1) (by omega) f3 (by
     rw [hrs]
     refine Or.inr ⟨G2.n+1,rfl,by simp, ?_,by have:=fG2.n;omega,by rw [gn];omega⟩
     rw [Heap.get_new (by rw [Heap.wf_new];exact gw),if_pos (by rw [Heap.n_new])]
     rfl)
   refine ⟨G',vo',f',hg',fun d kx rr e hrr h0 h4 h7 h40 h41 x hT => ?_⟩
   obtain ⟨rr,rfl⟩:∃ q,rr=q+1:=⟨rr-1,by omega⟩
   rw [evL_succ]
   simp only [go_sem,↓op_app,reduceCtorEq,Nat.reduceAdd,Nat.reduceSub,Nat.reduceMul,Nat.reduceEqDiff,Nat.reduceLT,Nat.reduceDiv,Nat.reduceMod,Nat.reduceLeDiff,↓reduceIte,c26l0,h0,h4,h7,h40,h41,hlt,e1,e2,e9,hat,hr2,gw,e21]
   refine hG' d kx rr _ (by omega) ?_ ?_ ?_ ?_ ?_ x hT <;> simp only [go_sem,reduceCtorEq,↓reduceIte,h0,h4,h7,h40,h41]
  ·have hboG:bo<G2.n:=Nat.lt_of_lt_of_le hbo4 f2.n
   have hbo2':G2.get bo = .cells (ss.map sv):=(f2.same bo hbo4).trans hbo2
   have e4:¬ bo=G2.n:=by omega
   have e5:bo<G2.n+1:=by omega
   have e6:i+1≤1073741824:=by omega
   have e7:(ss.map sv).length=i:=by rw [List.length_map,hrl]
   have w1:((G2.new (.cells [.str ql qn])).put bo .dead).wf:=by simp only [Heap.wf_put,Heap.wf_new,gw]
   have n1:((G2.new (.cells [.str ql qn])).put bo .dead).n=G2.n+1:=by simp only [Heap.n_new,Heap.n_put]
   have f3:Fresh H (((G2.new (.cells [.str ql qn])).put bo .dead).new (.cells (ss.map sv ++ [.str ql qn]))):=(Fresh.put (fG2.trans (Fresh.new gw)) hbo3 (by rw [Heap.n_new];omega)).trans (Fresh.new w1)
   have gn:(((G2.new (.cells [.str ql qn])).put bo .dead).new (.cells (ss.map sv ++ [.str ql qn]))).n=G2.n+1+1:=by rw [Heap.n_new,n1]
   obtain ⟨G',vo',f',hg',hG'⟩:=ih (i+1) _ (.slice (G2.n+1) 0 (i+1) 0 1) (by omega) f3 (by
     rw [hrs]
     refine Or.inr ⟨G2.n+1,by simp [hrl],by simp, ?_,by have:=fG2.n;omega,by rw [gn];omega⟩
     rw [Heap.get_new w1,if_pos n1.symm,List.map_append]
     rfl)
   refine ⟨G',vo',f',hg',fun d kx rr e hrr h0 h4 h7 h40 h41 x hT => ?_⟩
   obtain ⟨rr,rfl⟩:∃ q,rr=q+1:=⟨rr-1,by omega⟩
   rw [hrl] at h7
   have e8:(ss.map sv).length=ss.length:=by rw [List.length_map]
   rw [evL_succ]
   simp only [go_sem,↓op_app,reduceCtorEq,Nat.reduceAdd,Nat.reduceSub,Nat.reduceMul,Nat.reduceEqDiff,Nat.reduceLT,Nat.reduceDiv,Nat.reduceMod,Nat.reduceLeDiff,↓reduceIte,c26l0,h0,h4,h7,h40,h41,hlt,e1,e2,e9,hat,hr2,gw,e21,e4,e5,e6,hrl,hbo2']
   refine hG' d kx rr _ (by omega) ?_ ?_ ?_ ?_ ?_ x hT <;> simp only [go_sem,reduceCtorEq,↓reduceIte,h0,h4,h7,h40,h41]
end
end Go.Ev
end
section
namespace Go.Ev
def AD.recover (A:AD) (n:Nat) (ws:List Wr):AD × Nat:=if A.off=true then (A,6) else if n=0 then (A,0) else A.runs [ws]
structure CanRecover (A:AD) (pk:List UInt8→List (List UInt8)) (a n:Nat) (ws:List Wr):Prop where
 can:CanCommit A a n
 record:n≠0→n=(pk (recT ws)).length∧(∀ i (h:i < (pk (recT ws)).length),A.read (1+a * 72+i)=tx (pk (recT ws))[i])∧RecOK ws∧ws≠[]∧mayP A.len [] ws=true∧roomy A.room A.es ws
section
variable {cp:RC→CodeE} {t:Nat→Option FnE} {fuel:Nat} {H:Heap}
theorem recover_call (T:TCode t) (hc:HasClone t) {pk:List UInt8→List (List UInt8)} {unpk:List (List UInt8)→Option (List UInt8)} (F:FrameOK pk unpk) (hu:t 46=some (.nat (nUnpack unpk)))
  {p a n:Nat} {A:AD} {O:Nat→Prop} {ws:List Wr} (hD:Disk H p A O) (C:CanRecover A pk a n ws) (hfu:10000<fuel) :
  ∃ H' O',(∀ (d:Nat) (k:K),callP (evP cp t fuel (d+7)) (.func 52 []) [.ptr p 0] H k=k (.int 3 (A.recover n ws).2) H')∧Step H O H' O'∧Disk H' p (A.recover n ws).1 O':=by
 have hw:=hD.wf
 have hr:∀ {d:Nat} {k:K},callP (evP cp t fuel (d+3)) (.func 70 []) [.ptr p 0] H k=k (.int 3 (if A.off=true then 6 else 0)) H:=fun {d k}=>ready_call T hc hD
 by_cases ho:A.off=true
 ·refine ⟨H,O,fun d k => ?_,Step.refl hw, ?_⟩
  ·rw [if_pos ho] at hr
   rw [call_entry T.k26 rfl rfl]
   simp only [go_sem,↓op_app,reduceCtorEq,Nat.reduceAdd,Nat.reduceSub,Nat.reduceMul,Nat.reduceEqDiff,Nat.reduceLT,Nat.reduceDiv,Nat.reduceMod,Nat.reduceLeDiff,↓reduceIte,c26,hr,AD.recover,ho]
  ·simp only [AD.recover,if_pos ho];exact hD
 rw [if_neg ho] at hr
 have ho':A.off=false:=by
  cases h:A.off with
  | true=>exact absurd h ho
  | false=>rfl
 obtain ⟨⟨k1,k2,k3,k4,k5,k6,k7⟩,k8⟩:=C
 obtain ⟨H2,hh2,f2⟩:=head_call (cp:=cp) (fuel:=fuel) T hc hD ho' (by omega) k5 k6 k7 (by omega)
 have hh2':=fun {d:Nat} {k:K}=>hh2 (d+1) k
 by_cases h0:n=0
 ·refine ⟨H2,O,fun d k => ?_,f2.step, ?_⟩
  ·have n0:nn n:=by unfold nn;omega
   rw [call_entry T.k26 rfl rfl]
   simp only [go_sem,↓op_app,reduceCtorEq,Nat.reduceAdd,Nat.reduceSub,Nat.reduceMul,Nat.reduceEqDiff,Nat.reduceLT,Nat.reduceDiv,Nat.reduceMod,Nat.reduceLeDiff,↓reduceIte,c26,hr,hh2',AD.recover,ho,h0]
  ·simp only [AD.recover,if_neg ho,if_pos h0];exact hD.fresh f2
 obtain ⟨j1,j2,j3,j4,j5,j6⟩:=k8 h0
 have hrc:A.recover n ws=A.runs [ws]:=by simp only [AD.recover,if_neg ho,if_neg h0]
 rw [hrc]
 have htl:=j3.text
 have hnum:=j3.num
 obtain ⟨hgood,_⟩:=mayP_good j5
 have hback:=F.back (recT ws) (by omega)
 have hpkl:=F.len (recT ws) (by omega)
 obtain ⟨H3,vo,f3,g3,hL⟩:=recover_loop (cp:=cp) (fuel:=fuel) T hc (hD.fresh f2) ho' k1 k6 k7 n 0 H2 .nils (by omega) (Fresh.refl f2.wf) (Or.inl ⟨rfl,rfl⟩)
 have f23:=f2.trans f3
 have hread:(List.range n).map (fun j=>A.read (1+a * 72+j))=(pk (recT ws)).map tx:=by
  refine List.ext_getElem (by simp [j1]) fun i h1 h2 => ?_
  simp only [List.getElem_map,List.getElem_range]
  exact j2 i (by simpa using h2)
 rw [hread] at g3
 obtain ⟨b,rfl,hb2,hb3,hb4⟩:∃ b,vo = .slice b 0 n 0 1∧H3.get b = .cells ((pk (recT ws)).map tv)∧H2.n≤b∧b<H3.n:=by
  rcases g3 with ⟨_,h⟩ | ⟨b,q1,q2,q3,q4,q5⟩
  ·have:=congrArg List.length h
   simp only [List.length_map,List.length_nil] at this
   omega
  ·refine ⟨b,by rw [q1,List.length_map,← j1], ?_,q4,q5⟩
   rw [q3,List.map_map]
   rfl
 have hun:∀ {d:Nat} {k:K},callP (evP cp t fuel (d+1)) (.func 92 []) [.slice b 0 n 0 1] H3 k=k (.tup [tv (recT ws), .int 3 0]) H3:=fun {d k}=>by
  rw [call_nat hu rfl rfl]
  exact nUnpack_eq hb2 j1.symm (by omega) (fun x hx=>by have:=hpkl x hx;omega) hback
 obtain ⟨H4,vw,hjw,f4,g4⟩:=jwrites_call (cp:=cp) (fuel:=fuel) T f3.wf j3 j4 (fun w hw=>by have:=(hgood w hw).1.2.1;omega) (by omega)
 have f24:=f23.trans f4
 have hWs:WsAt H4 vw ws O:=by
  rcases g4 with ⟨_,h⟩ | ⟨bo,q1,q2,q3,q4,q5⟩
  ·exact absurd h j4
  ·exact Or.inr ⟨bo,_,_,q1,q3,q5,fun h=>by have:=hD.lt _ h;have:=f23.n;omega⟩
 obtain ⟨H5,hm5,f5⟩:=may_call (cp:=cp) (fuel:=fuel) T hc (hD.fresh f24) (by unfold nn;omega) hWs (fun w hw=>by have:=(hgood w hw).1.2;omega) (by omega) (by omega)
 rw [j5] at hm5
 have f25:=f24.trans f5
 obtain ⟨H6,F1,ha6,f6,hA⟩:=all_call (cp:=cp) (fuel:=fuel) T (p:=p) f5.wf (fun x hx=>Nat.lt_of_lt_of_le (hD.lt x hx) f25.n) (hWs.fresh f5)
 have f26:=f25.trans f6
 have hw6:=f6.wf
 have f67:Fresh H6 (H6.new (.cells [F1])):=Fresh.new hw6
 have hA':=hA.keep f67.step
 have f27:=f26.trans f67
 obtain ⟨H',O',g1,g2,g3⟩:=run_call (H:=H6.new (.cells [F1])) (cp:=cp) (fuel:=fuel) (b:=H6.n) (c:=2) (s:=0) (fs:=[(F1,ws)]) T hc (hD.fresh f27) (A:=A) (O:=O) (by
  refine ⟨ho',fun us hus => ?_, ?_,fun us hus w hw => ?_, ?_⟩
  ·simp only [List.map_cons,List.map_nil,List.mem_cons,List.not_mem_nil,or_false] at hus
   subst hus
   omega
  ·simp only [List.map_cons,List.map_nil,List.flatten_cons,List.flatten_nil,List.length_append,List.length_nil]
   omega
  ·simp only [List.map_cons,List.map_nil,List.mem_cons,List.not_mem_nil,or_false] at hus
   subst hus
   exact ⟨(hgood w hw).1.2.1,(hgood w hw).1.2.2⟩
  ·simp only [List.map_cons,List.map_nil,List.flatten_cons,List.flatten_nil,List.append_nil]
   exact j6) (fun f hf=>by
  simp only [List.mem_cons,List.not_mem_nil,or_false] at hf
  subst hf
  exact ⟨hA',by show ws.length<10000;omega,by show ws.length<fuel;omega⟩) (by rw [Heap.get_new hw6,if_pos rfl];rfl) (by rw [Heap.n_new];omega) (fun h=>by have:=hD.lt _ h;have:=f26.n;omega) (by simp) (by simp only [List.length_cons,List.length_nil];omega)
 obtain ⟨B20,B21,B22,v2,rfl,_⟩:=hA
 clear hA'
 have n0:nn n:=by unfold nn;omega
 refine ⟨H',O',fun d k => ?_,f27.step.trans g2,g3⟩
 have g1':=fun {d:Nat} {k:K}=>g1 (d+1) k
 have hjw':=fun {d:Nat} {k:K}=>hjw (d+2) k
 have hm5':=fun {d:Nat} {k:K}=>hm5 (d+4) k
 have ha6':=fun {d:Nat} {k:K}=>ha6 (d+5) k
 have hun':=fun {d:Nat} {k:K}=>hun (d:=d+5) (k:=k)
 simp only [List.map_cons,List.map_nil,List.length_cons,List.length_nil] at g1'
 rw [call_entry T.k26 rfl rfl]
 simp only [go_sem,↓op_app,reduceCtorEq,Nat.reduceAdd,Nat.reduceSub,Nat.reduceMul,Nat.reduceEqDiff,Nat.reduceLT,Nat.reduceDiv,Nat.reduceMod,Nat.reduceLeDiff,↓reduceIte,c26,hr,hh2',h0,n0]
 refine hL _ _ fuel _ (by omega) ?_ ?_ ?_ ?_ ?_ _ (fun e' q0 q7 => ?_)
 ·simp only [go_sem,reduceCtorEq,↓reduceIte]
 ·simp only [go_sem,reduceCtorEq,↓reduceIte]
 ·simp only [go_sem,reduceCtorEq,↓reduceIte]
 ·simp only [go_sem,reduceCtorEq,↓reduceIte]
 ·simp only [go_sem,reduceCtorEq,↓reduceIte]
 ·simp only [go_sem,↓op_app,reduceCtorEq,Nat.reduceAdd,Nat.reduceSub,Nat.reduceMul,Nat.reduceEqDiff,Nat.reduceLT,Nat.reduceDiv,Nat.reduceMod,Nat.reduceLeDiff,↓reduceIte,q0,q7,hun',hjw',hm5',ha6',hw6,g1']
end
end Go.Ev
end

