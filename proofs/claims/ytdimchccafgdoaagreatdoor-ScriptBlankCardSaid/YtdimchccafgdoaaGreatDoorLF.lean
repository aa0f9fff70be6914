/- LF: a part of the evaluator,of its logic,or of the laws' walk in it. -/
import Derived.Test.YtdimchccafgdoaaGreatDoorLB
import Derived.Test.YtdimchccafgdoaaGreatDoorLC
set_option linter.unusedVariables false
set_option linter.unusedSimpArgs false
set_option linter.unusedSectionVars false
section
namespace Go.Ev
structure FG (P:PC) (R0 E0:Nat) (lp:Blk) (c a:Nat) (G:Heap):Prop where
 f:Fresh P.H G
 n:P.Hb.n≤G.n
 lp:G.get P.y=lp
 zr0:G.get R0 = .cells [.nils]
 er:∃ q,G.get E0 = .cells [.iface 43 (.ptr q 0)]∧G.get q = .cells [.int 3 c, .int 3 a]∧P.Hb.n≤q∧q<G.n
structure RE (P:PC) (R0 E0:Nat):Prop where
 hR:P.H.n≤R0
 hE:P.H.n≤E0
 lR:R0<P.Hb.n
 lE:E0<P.Hb.n
 RE:R0≠E0
 RT:R0≠P.T
 Ry:R0≠P.y
 ET:E0≠P.T
 Ey:E0≠P.y
 RO:R0≠P.O
 RB:R0≠P.B
 EO:E0≠P.O
 EB:E0≠P.B
 gR:P.Hb.get R0 = .cells [.nils]
 gE:P.Hb.get E0 = .cells [.nili]
theorem FG.putY {P:PC} {R0 E0:Nat} {lp lp':Blk} {c a:Nat} {G:Heap} (kk:P.OK) (re:RE P R0 E0) (h:FG P R0 E0 lp c a G):FG P R0 E0 lp' c a (G.put P.y lp'):=by
 obtain ⟨h1,h2,h3,h4,q,h5,h6,h7,h8⟩:=h
 have l4:=kk.ly
 have hw:=h1.wf
 have hy:P.y<G.n:=by omega
 refine ⟨h1.put kk.hy hy,by rw [Heap.n_put];exact h2, ?_, ?_,q, ?_, ?_,h7,by rw [Heap.n_put];exact h8⟩
 ·rw [Heap.get_put hw hy,if_pos rfl]
 ·rw [Heap.get_put hw hy,if_neg re.Ry];exact h4
 ·rw [Heap.get_put hw hy,if_neg re.Ey];exact h5
 ·rw [Heap.get_put hw hy,if_neg (by omega)];exact h6
theorem nilly_nili {id:Nat} {f:Nat→R}:nilly id .nili f=f 50:=Eq.trans rfl rfl
theorem nilly_iface {id t:Nat} {v:V} {f:Nat→R}:nilly id (.iface t v) f=f 51:=Eq.trans rfl rfl
theorem closB_ii {id x y:Nat} {k:R}:closB id (.cells [.int 3 x, .int 3 y]) k=k:=Eq.trans rfl rfl
section
variable {t:Nat→Option FnE} {cp:RC→CodeE} {fuel:Nat} {dec:List UInt8→Nat × Nat} {num:List UInt8→Nat}
theorem parse_q7_bad (hA:t 27=some (.nat nAs)) {P:PC} (kk:P.OK) {R0 E0 Eb:Nat} (re:RE P R0 E0) {lp:Blk} {a c:Nat} {acc:List Stp} {bx:Blk} {G:Heap} (h:JG P lp (a+1) acc bx G) (ha:a<9223372036854775808) (hEb:G.get Eb = .cells [.int 3 0]) (hEn:P.Hb.n≤Eb) (hEl:Eb<G.n) :
  ∃ G',FG P R0 E0 lp c a G' ∧ ∀ (d:Nat) (kn:KE) (kx:Nat→KE) (e:Env) (x:R),pget ⟨.i0, .i1, .i4⟩ e = .iface 25 (.int 3 c)→pget ⟨.i0, .i1, .i5⟩ e = .ptr Eb 0→pget ⟨.i0, .i0, .i7⟩ e = .ptr P.T 0→pget ⟨.i0, .i0, .i2⟩ e = .ptr R0 0→pget ⟨.i0, .i0, .i3⟩ e = .ptr E0 0→(∀ e',kx 0 e' G'=x)→evC c11q7 fuel (evP cp t fuel (d+1)) e G kn kx=x:=by
 have hw:=h.f.wf
 have hn:=h.n
 have lT:=kk.lT
 have z1:=fun {d:Nat} {k:K}=>as_err (cp:=cp) (fuel:=fuel) (d:=d) (k:=k) (c:=c) hA hEb hw hEl
 generalize hG1:G.put Eb (.cells [.int 3 c])=G1 at z1
 have f1:Fresh P.H G1:=by rw [← hG1];exact h.f.put (by have:=h.f.n;have:=kk.hT;omega) hEl
 have n1:G1.n=G.n:=by rw [← hG1,Heap.n_put]
 have o1:∀ i,i≠Eb→G1.get i=G.get i:=fun i hi=>by rw [← hG1,Heap.get_put hw hEl,if_neg hi]
 have g1E:G1.get Eb = .cells [.int 3 c]:=by rw [← hG1,Heap.get_put hw hEl,if_pos rfl]
 have g1T:G1.get P.T = .cells [.int 3 (a+1)]:=by rw [o1 _ (by omega)];exact h.at_
 have hw1:=f1.wf
 generalize hG2:G1.new (.cells [.int 3 c, .int 3 a])=G2
 have f2:Fresh G1 G2:=by rw [← hG2];exact Fresh.new hw1
 have n2:G2.n=G1.n+1:=by rw [← hG2,Heap.n_new]
 have hw2:=f2.wf
 have g2q:G2.get G1.n = .cells [.int 3 c, .int 3 a]:=by rw [← hG2,Heap.get_new hw1,if_pos rfl]
 have o2:∀ i,i<G1.n→G2.get i=G1.get i:=f2.same
 have lR:R0<G2.n:=by have:=re.lR;omega
 have lE:E0<G2.n:=by have:=re.lE;omega
 have k2:Fresh P.H G2:=f1.trans f2
 have k3:Fresh P.H (G2.put R0 (.cells [.nils])):=k2.put re.hR lR
 have w3:=k3.wf
 have lE3:E0 < (G2.put R0 (.cells [.nils])).n:=by rw [Heap.n_put];exact lE
 have aT:(a+1+18446744073709551615) % 18446744073709551616=a:=by omega
 have m1:G1.mark.wf:=by rw [Heap.wf_mark];exact hw1
 have m2:(G1.mark.new (.cells [.int 3 c, .int 3 a])).get G1.n = .cells [.int 3 c, .int 3 a]:=by rw [Heap.get_new m1,if_pos Heap.n_mark.symm]
 have m3:G1.n≤(G1.mark.new (.cells [.int 3 c, .int 3 a])).wlo:=Nat.le_refl _
 have rl:=re.lR
 have g2R:G2.get R0 = .cells [.nils]:=by rw [o2 _ (by have:=re.lR;omega),o1 _ (by have:=re.lR;omega),h.same _ re.lR re.RO re.RT re.RB re.Ry];exact re.gR
 have g3E:(G2.put R0 (.cells [.nils])).get E0 = .cells [.nili]:=by rw [Heap.get_put hw2 lR,if_neg (Ne.symm re.RE),o2 _ (by have:=re.lE;omega),o1 _ (by have:=re.lE;omega),h.same _ re.lE re.EO re.ET re.EB re.Ey];exact re.gE
 have el:=re.lE
 refine ⟨(G2.put R0 (.cells [.nils])).put E0 (.cells [.iface 43 (.ptr G1.n 0)]),⟨k3.put re.hE lE3,by rw [Heap.n_put,Heap.n_put];omega, ?_, ?_,G1.n, ?_, ?_,by omega,by rw [Heap.n_put,Heap.n_put];omega⟩,fun d kn kx e x q14 q15 q7 q2 q3 hx => ?_⟩
 ·rw [Heap.get_put w3 lE3,if_neg (Ne.symm re.Ey),Heap.get_put hw2 lR,if_neg (Ne.symm re.Ry),o2 _ (by have:=kk.ly;omega),o1 _ (by have:=kk.ly;omega)];exact h.lp
 ·rw [Heap.get_put w3 lE3,if_neg re.RE,Heap.get_put hw2 lR,if_pos rfl]
 ·rw [Heap.get_put w3 lE3,if_pos rfl]
 ·rw [Heap.get_put w3 lE3,if_neg (by omega),Heap.get_put hw2 lR,if_neg (by omega)];exact g2q
 ·simp only [go_sem,↓op_app,reduceCtorEq,Nat.reduceAdd,Nat.reduceSub,Nat.reduceMul,Nat.reduceEqDiff,Nat.reduceLT,Nat.reduceDiv,Nat.reduceMod,Nat.reduceLeDiff,↓reduceIte,c11q7,q14,q15,isOne_iface,z1]
  simp only [go_sem,↓op_app,reduceCtorEq,Nat.reduceAdd,Nat.reduceSub,Nat.reduceMul,Nat.reduceEqDiff,Nat.reduceLT,Nat.reduceDiv,Nat.reduceMod,Nat.reduceLeDiff,↓reduceIte,evC_freg]
  refine (evFreg_2 (b:=Eb) (o:=0) (v := .int 3 c) (by simp only [go_sem,reduceCtorEq,↓reduceIte,q15]) (by omega) (fun k=>by simp only [go_sem,↓op_app,reduceCtorEq,Nat.reduceAdd,Nat.reduceSub,Nat.reduceMul,Nat.reduceEqDiff,Nat.reduceLT,Nat.reduceDiv,Nat.reduceMod,Nat.reduceLeDiff,↓reduceIte,q15,g1E]) (fun k=>apartN_nil)).trans ?_
  refine (evFreg_2 (b:=P.T) (o:=0) (v := .int 3 (a+1)) (by simp only [go_sem,reduceCtorEq,↓reduceIte,q7]) (by omega) (fun k=>by simp only [go_sem,↓op_app,reduceCtorEq,Nat.reduceAdd,Nat.reduceSub,Nat.reduceMul,Nat.reduceEqDiff,Nat.reduceLT,Nat.reduceDiv,Nat.reduceMod,Nat.reduceLeDiff,↓reduceIte,q7,g1T]) (fun k=>apartN_nil)).trans ?_
  simp only [go_sem,↓op_app,reduceCtorEq,Nat.reduceAdd,Nat.reduceSub,Nat.reduceMul,Nat.reduceEqDiff,Nat.reduceLT,Nat.reduceDiv,Nat.reduceMod,Nat.reduceLeDiff,↓reduceIte,evFreg_0,evFreg_4]
  rw [aT,hNew_new m1,Heap.n_mark,m2,if_pos m3,closB_ii,Heap.unmark_new,hG2]
  refine (evFreg_3 (b:=R0) (o:=0) (v := .tup []) (H':=G2.put R0 (.cells [.nils])) (by simp only [go_sem,reduceCtorEq,↓reduceIte,q2]) (fun k=>by simp only [go_sem,↓op_app,reduceCtorEq,Nat.reduceAdd,Nat.reduceSub,Nat.reduceMul,Nat.reduceEqDiff,Nat.reduceLT,Nat.reduceDiv,Nat.reduceMod,Nat.reduceLeDiff,↓reduceIte,q2,hw2,lR,g2R]) (fun k=>by simp only [apartN_cons,apartN_nil,re.RT,(show ¬ R0=G1.n by omega),(show ¬ R0=Eb by omega),Nat.zero_testBit,Bool.false_eq_true,if_false])).trans ?_
  simp only [go_sem,↓op_app,reduceCtorEq,Nat.reduceAdd,Nat.reduceSub,Nat.reduceMul,Nat.reduceEqDiff,Nat.reduceLT,Nat.reduceDiv,Nat.reduceMod,Nat.reduceLeDiff,↓reduceIte,evFreg_0,evFreg_nil,q3,hw2,lE,g3E,isOne_iface]
  exact hx _
def badC (num:List UInt8→Nat) (F:List (List UInt8)):Nat:=if (stepP num F).2≠0 then (stepP num F).2 else 3
theorem parse_q4_bad (hA:t 27=some (.nat nAs)) (T:TCode t) (S:SNat t dec num) {P:PC} (kk:P.OK) {R0 E0 M m W:Nat} (re:RE P R0 E0) (k0:PR0 P R0 E0 M m) {lp:Blk} {a:Nat} {acc:List Stp} {bx:Blk} {G:Heap} (h:JG P lp (a+1) acc bx G) (ha:a<9223372036854775808) {v:V} {w0:List UInt8} {l:List (List UInt8)} (gW:G.get W = .cells [v]) (hWn:W<G.n) (hv:WS G v (w0 :: l)) (hl:l.length<999999) (hx:∀ w ∈ w0 :: l,w.length≤16777216)
  (hs:(stepP num (w0 :: l)).2≠0∨acc.length=4096) (hacc:acc.length≤4096) :
  ∃ G',FG P R0 E0 lp (badC num (w0 :: l)) a G' ∧ ∀ (d:Nat) (kn:KE) (kx:Nat→KE) (e:Env) (x:R),PE P R0 E0 M W e→(∀ e',kx 0 e' G'=x)→evC c11q4 fuel (evP cp t fuel (d+3)) e G kn kx=x:=by
 have hw:=h.f.wf
 have hn:=h.n
 have gM:G.get M = .cells [.map m]:=(h.same M k0.Ml k0.MO k0.MT k0.MB k0.My).trans k0.gM
 have gm:G.get m = .map (encT (kMap 12)):=(h.same m k0.ml k0.mO k0.mT k0.mB k0.my).trans k0.gm
 have hml:=k0.ml
 obtain ⟨G1,f1,z1⟩:=step_call (cp:=cp) (fuel:=fuel) T S hw gm (by omega) hv hl hx
 generalize hse:(stepP num (w0 :: l)).1=s at z1
 have z1':=fun {d:Nat} {k:K}=>z1 d k
 have hw1:=f1.wf
 generalize hG2:(G1.new (.cells [.int 3 0, .int 3 0, .int 3 0, .str 0 0])).put G1.n (.cells s.cells)=G2
 have f12:Fresh G1 (G1.new (.cells [.int 3 0, .int 3 0, .int 3 0, .str 0 0])):=Fresh.new hw1
 have g1l:G1.n<G1.n+1:=by omega
 have f2:Fresh G G2:=by rw [← hG2];exact f1.trans (f12.put (Nat.le_refl _) (by rw [Heap.n_new];omega))
 have g2n:G2.n=G1.n+1:=by rw [← hG2,Heap.n_put,Heap.n_new]
 have hw2:=f2.wf
 generalize hG3:G2.new (.cells [.int 3 0])=G3
 have f3:Fresh G2 G3:=by rw [← hG3];exact Fresh.new hw2
 have g3n:G3.n=G2.n+1:=by rw [← hG3,Heap.n_new]
 have g3E:G3.get G2.n = .cells [.int 3 0]:=by rw [← hG3,Heap.get_new hw2,if_pos rfl]
 have h3:=(h.fresh kk f2).fresh kk f3
 have n1:=f1.n
 obtain ⟨G4,h4,z4⟩:=parse_q7_bad (cp:=cp) (fuel:=fuel) (Eb:=G2.n) (c:=badC num (w0 :: l)) hA kk re h3 ha g3E (by omega) (by omega)
 obtain ⟨vo,gO,hvo,_⟩:=(h.fresh kk f2).out
 have e1:∀ {id:Nat} {f:Nat→R},vSliceN id vo (fun _ _ len _ _=>f len) (f 0)=f acc.length:=fun {id f}=>hvo.sn
 have e2:∀ {id id2:Nat} {k:K},vSliceN id vo (fun _ _ n _ _=>lenR id2 n G2 k) (lenR id2 0 G2 k)=k (.int 3 acc.length) G2:=fun {id id2 k}=>(e1 (f:=fun n=>lenR id2 n G2 k)).trans (by rw [lenR_eq,if_pos (by omega)])
 have e3:∀ {id:Nat} {k:R},isOne id vo k=k:=fun {id k}=>hvo.is1
 have e5:s.cells.length=4:=rfl
 have e6:∀ {id:Nat} {x:R},allOne id s.cells x=x:=fun {id x}=>rfl
 have e7:∀ {id:Nat} {f:List V→R},setAt id s.cells [.int 3 0, .int 3 0, .int 3 0, .str 0 0] 0 f=f s.cells:=fun {id f}=>rfl
 have e8:∀ {id:Nat} {x:R},isOne id v x=x:=fun {id x}=>hv.one
 refine ⟨G4,h4,fun d kn kx e x E hx => ?_⟩
 have q4:=E.a4
 have q6:=E.a6
 have q11:=E.a11
 by_cases hc:(stepP num (w0 :: l)).2=0
 ·have hb:badC num (w0 :: l)=3:=by unfold badC;rw [if_neg (by rw [hc];simp)]
  have e4:(acc.length=4096)=True:=eq_true (by omega)
  have e0:errV 0 = .nili:=rfl
  rw [hc,e0] at z1'
  rw [hb] at z4
  simp only [go_sem,↓op_app,reduceCtorEq,Nat.reduceAdd,Nat.reduceSub,Nat.reduceMul,Nat.reduceEqDiff,Nat.reduceLT,Nat.reduceDiv,Nat.reduceMod,Nat.reduceLeDiff,↓reduceIte,c11q4,q4,q6,q11,gM,gW,e8,z1',hw1,g1l,e5,e6,e7,hG2]
  simp only [go_sem,↓op_app,reduceCtorEq,Nat.reduceAdd,Nat.reduceSub,Nat.reduceMul,Nat.reduceEqDiff,Nat.reduceLT,Nat.reduceDiv,Nat.reduceMod,Nat.reduceLeDiff,↓reduceIte,c11q5,c11q6,q6,gO,e2,e3,e4,hw2,hG3,nilly_nili]
  refine z4 _ kn kx _ x ?_ ?_ ?_ ?_ ?_ hx
  ·simp only [go_sem,reduceCtorEq,↓reduceIte]
  ·simp only [go_sem,reduceCtorEq,↓reduceIte]
  ·simp only [go_sem,↓op_app,reduceCtorEq,Nat.reduceAdd,Nat.reduceSub,Nat.reduceMul,Nat.reduceEqDiff,Nat.reduceLT,Nat.reduceDiv,Nat.reduceMod,Nat.reduceLeDiff,↓reduceIte,E.a7]
  ·simp only [go_sem,↓op_app,reduceCtorEq,Nat.reduceAdd,Nat.reduceSub,Nat.reduceMul,Nat.reduceEqDiff,Nat.reduceLT,Nat.reduceDiv,Nat.reduceMod,Nat.reduceLeDiff,↓reduceIte,E.a2]
  ·simp only [go_sem,↓op_app,reduceCtorEq,Nat.reduceAdd,Nat.reduceSub,Nat.reduceMul,Nat.reduceEqDiff,Nat.reduceLT,Nat.reduceDiv,Nat.reduceMod,Nat.reduceLeDiff,↓reduceIte,E.a3]
 ·have hb:badC num (w0 :: l)=(stepP num (w0 :: l)).2:=by unfold badC;rw [if_pos hc]
  have e0:errV (stepP num (w0 :: l)).2 = .iface 25 (.int 3 (badC num (w0 :: l))):=by unfold errV;rw [if_neg hc,hb]
  rw [e0] at z1'
  simp only [go_sem,↓op_app,reduceCtorEq,Nat.reduceAdd,Nat.reduceSub,Nat.reduceMul,Nat.reduceEqDiff,Nat.reduceLT,Nat.reduceDiv,Nat.reduceMod,Nat.reduceLeDiff,↓reduceIte,c11q4,q4,q6,q11,gM,gW,e8,z1',hw1,g1l,e5,e6,e7,hG2]
  simp only [go_sem,↓op_app,reduceCtorEq,Nat.reduceAdd,Nat.reduceSub,Nat.reduceMul,Nat.reduceEqDiff,Nat.reduceLT,Nat.reduceDiv,Nat.reduceMod,Nat.reduceLeDiff,↓reduceIte,c11q5,c11q6,q6,gO,e2,e3,hw2,hG3,nilly_nili,nilly_iface]
  refine z4 _ kn kx _ x ?_ ?_ ?_ ?_ ?_ hx
  ·simp only [go_sem,reduceCtorEq,↓reduceIte]
  ·simp only [go_sem,reduceCtorEq,↓reduceIte]
  ·simp only [go_sem,↓op_app,reduceCtorEq,Nat.reduceAdd,Nat.reduceSub,Nat.reduceMul,Nat.reduceEqDiff,Nat.reduceLT,Nat.reduceDiv,Nat.reduceMod,Nat.reduceLeDiff,↓reduceIte,E.a7]
  ·simp only [go_sem,↓op_app,reduceCtorEq,Nat.reduceAdd,Nat.reduceSub,Nat.reduceMul,Nat.reduceEqDiff,Nat.reduceLT,Nat.reduceDiv,Nat.reduceMod,Nat.reduceLeDiff,↓reduceIte,E.a2]
  ·simp only [go_sem,↓op_app,reduceCtorEq,Nat.reduceAdd,Nat.reduceSub,Nat.reduceMul,Nat.reduceEqDiff,Nat.reduceLT,Nat.reduceDiv,Nat.reduceMod,Nat.reduceLeDiff,↓reduceIte,E.a3]
end
end Go.Ev
end
section
namespace Go.Ev
theorem parseGo_bad {num:List UInt8→Nat} {w:List UInt8} {j c a:Nat} {acc:List Stp} (h:parseGo num [w] j acc = .error (c,a)) (hacc:acc.length≤4096) :
  a=j ∧ ¬ (fieldsP w=[]∨((fieldsP w).headD []).headD 0=35)∧c=badC num (fieldsP w)∧((stepP num (fieldsP w)).2≠0∨acc.length=4096):=by
 simp only [parseGo,lineP] at h
 by_cases hc:fieldsP w=[]∨((fieldsP w).headD []).headD 0=35
 ·rw [if_pos hc] at h;cases h
 ·rw [if_neg hc] at h
  simp only [] at h
  refine ⟨?_,hc, ?_⟩
  ·split at h
   ·cases h;rfl
   ·split at h
    ·cases h;rfl
    ·cases h
  ·unfold badC
   split at h
   ·rename_i h1
    cases h
    exact ⟨by rw [if_pos h1],Or.inl h1⟩
   ·rename_i h1
    split at h
    ·rename_i h2
     cases h
     exact ⟨by rw [if_neg h1],Or.inr h2⟩
    ·cases h
theorem parseGo_fail {num:List UInt8→Nat} {ls:List (List UInt8)} {e:Nat × Nat} (h:parseGo num ls 0 [] = .error e):∀ j,(∃ acc,parseGo num (ls.take j) 0 [] = .ok acc)∨parseGo num (ls.take j) 0 [] = .error e:=fun j=>by
 rw [← List.take_append_drop j ls,parseGo_app] at h
 cases hp:parseGo num (ls.take j) 0 [] with
 | ok acc=>exact Or.inl ⟨acc,rfl⟩
 | error x=>rw [hp] at h;exact Or.inr h
section
variable {t:Nat→Option FnE} {cp:RC→CodeE} {fuel:Nat} {H:Heap} {dec:List UInt8→Nat × Nat} {num:List UInt8→Nat}
theorem parse_q3_bad (hA:t 27=some (.nat nAs)) (T:TCode t) (S:SNat t dec num) {P:PC} (kk:P.OK) {R0 E0 M m W:Nat} (re:RE P R0 E0) (k0:PR0 P R0 E0 M m) {lp:Blk} {a:Nat} {acc:List Stp} {bx:Blk} {G:Heap} (h:JG P lp (a+1) acc bx G) (ha:a<9223372036854775808) {v:V} {F:List (List UInt8)} (gW:G.get W = .cells [v]) (hWn:W<G.n) (hv:WS G v F) (hl:F.length<999999) (hx:∀ w ∈ F,w≠[]∧w.length≤16777216) (hacc:acc.length≤4096)
  (hb:¬ (F=[]∨(F.headD []).headD 0=35)) (hs:(stepP num F).2≠0∨acc.length=4096) :
  ∃ G',FG P R0 E0 lp (badC num F) a G' ∧ ∀ (d:Nat) (kn:KE) (kx:Nat→KE) (e:Env) (x:R),PE P R0 E0 M W e→(∀ e',kx 0 e' G'=x)→evC c11q3 fuel (evP cp t fuel (d+3)) e G kn kx=x:=by
 cases F with
 | nil=>exact absurd (Or.inl rfl) hb
 | cons w0 l=>
  obtain ⟨b0,w',rfl⟩:∃ b0 w',w0=b0 :: w':=by
   cases w0 with
   | nil=>exact absurd rfl (hx _ (List.mem_cons_self ..)).1
   | cons b0 w'=>exact ⟨b0,w',rfl⟩
  rcases hv with ⟨_,hv⟩ | ⟨_,b,o,c,s,row,rfl,g2,g3,g4,g5⟩
  ·cases hv
  have hv:WS G (.slice b o ((b0 :: w') :: l).length c s) ((b0 :: w') :: l):=Or.inr ⟨by simp,b,o,c,s,row,rfl,g2,g3,g4,g5⟩
  have e8:∀ {id:Nat} {x:R},isOne id (V.slice b o ((b0 :: w') :: l).length c s) x=x:=fun {id x}=>hv.one
  have e4:∀ {id:Nat} {f:V→R},nth id row o f=f (tv (b0 :: w')):=fun {id f}=>nth_get (by simpa using g5 0 _ rfl)
  have l1:l.length+1<9223372036854775808:=by simp only [List.length_cons] at hl;omega
  have l2:¬ l.length+1=0:=by omega
  have l3:0<l.length+1:=by omega
  have l4:0<w'.length+1:=by omega
  have hE:enc (b0 :: w') >>> 0 &&& 255=b0.toNat:=by
   have:=enc_at (b0 :: w') 0 (by simp)
   simpa using this
  have hb1:¬ b0.toNat=35:=fun h=>hb (Or.inr (show b0=35 from UInt8.toNat_inj.1 h))
  have hb2:(b0.toNat=35)=False:=eq_false hb1
  obtain ⟨G',h',z'⟩:=parse_q4_bad (cp:=cp) (fuel:=fuel) hA T S kk re k0 h ha gW hWn hv (by simp only [List.length_cons] at hl;omega) (fun w hw=>(hx w hw).2) hs hacc
  refine ⟨G',h',fun d kn kx e x E hx => ?_⟩
  have q11:=E.a11
  simp only [List.length_cons] at gW
  simp only [go_sem,↓op_app,reduceCtorEq,Nat.reduceAdd,Nat.reduceSub,Nat.reduceMul,Nat.reduceEqDiff,Nat.reduceLT,Nat.reduceDiv,Nat.reduceMod,Nat.reduceLeDiff,↓reduceIte,c11q3,q11,gW,l1,l2,l3,g3,e4,isOne_tv,vStr_tv,l4,hE,hb2]
  refine z' d kn kx _ x ⟨?_, ?_, ?_, ?_, ?_, ?_⟩ hx
  ·simp only [go_sem,↓op_app,reduceCtorEq,Nat.reduceAdd,Nat.reduceSub,Nat.reduceMul,Nat.reduceEqDiff,Nat.reduceLT,Nat.reduceDiv,Nat.reduceMod,Nat.reduceLeDiff,↓reduceIte,E.a2]
  ·simp only [go_sem,↓op_app,reduceCtorEq,Nat.reduceAdd,Nat.reduceSub,Nat.reduceMul,Nat.reduceEqDiff,Nat.reduceLT,Nat.reduceDiv,Nat.reduceMod,Nat.reduceLeDiff,↓reduceIte,E.a3]
  ·simp only [go_sem,↓op_app,reduceCtorEq,Nat.reduceAdd,Nat.reduceSub,Nat.reduceMul,Nat.reduceEqDiff,Nat.reduceLT,Nat.reduceDiv,Nat.reduceMod,Nat.reduceLeDiff,↓reduceIte,E.a4]
  ·simp only [go_sem,↓op_app,reduceCtorEq,Nat.reduceAdd,Nat.reduceSub,Nat.reduceMul,Nat.reduceEqDiff,Nat.reduceLT,Nat.reduceDiv,Nat.reduceMod,Nat.reduceLeDiff,↓reduceIte,E.a6]
  ·simp only [go_sem,↓op_app,reduceCtorEq,Nat.reduceAdd,Nat.reduceSub,Nat.reduceMul,Nat.reduceEqDiff,Nat.reduceLT,Nat.reduceDiv,Nat.reduceMod,Nat.reduceLeDiff,↓reduceIte,E.a7]
  ·simp only [go_sem,↓op_app,reduceCtorEq,Nat.reduceAdd,Nat.reduceSub,Nat.reduceMul,Nat.reduceEqDiff,Nat.reduceLT,Nat.reduceDiv,Nat.reduceMod,Nat.reduceLeDiff,↓reduceIte,E.a11]
theorem parse_round_bad (hA:t 27=some (.nat nAs)) (T:TCode t) (S:SNat t dec num) (C:CPs cp) (hfu:1000001<fuel) {P:PC} (kk:P.OK) {R0 E0 M m:Nat} (re:RE P R0 E0) (k0:PR0 P R0 E0 M m) (he:PE0 P R0 E0 M P.e0) {j:Nat} {acc:List Stp} {bx:Blk} {G:Heap} (h:JG P (lpS P 0 0) j acc bx G) {s:List UInt8} (hs:s.length<999990) (hj:j<1000000000) (hacc:acc.length≤4096)
  (hb:¬ (fieldsP s=[]∨((fieldsP s).headD []).headD 0=35)) (hbad:(stepP num (fieldsP s)).2≠0∨acc.length=4096) :
  ∃ G',FG P R0 E0 (lpS P 2 1) (badC num (fieldsP s)) j G' ∧ ∀ (d:Nat) (k:K),callP (evP cp t fuel (d+4)) (.yld P.y) [tv s] G k=k (.bool false) G':=by
 have hw:=h.f.wf
 have hn:=h.n
 have ly:=kk.ly
 have lT:=kk.lT
 have hyG:P.y<G.n:=by omega
 generalize hG1:G.put P.y (lpS P 1 0)=G1
 have h1:JG P (lpS P 1 0) j acc bx G1:=by rw [← hG1];exact h.putY kk
 have hw1:=h1.f.wf
 have g1n:G1.n=G.n:=by rw [← hG1,Heap.n_put]
 generalize hG2:G1.new (.cells [.nils])=G2
 have f2:Fresh G1 G2:=by rw [← hG2];exact Fresh.new hw1
 have g2n:G2.n=G1.n+1:=by rw [← hG2,Heap.n_new]
 have g2W:G2.get G1.n = .cells [.nils]:=by rw [← hG2,Heap.get_new hw1,if_pos rfl]
 generalize he2:pset ⟨.i0, .i1, .i0⟩ (tv s) (pset ⟨.i0, .i2, .i4⟩ (tv s) P.e0)=e2
 generalize he3:pset ⟨.i0, .i1, .i1⟩ (.ptr G1.n 0) e2=e3
 obtain ⟨fl,fx⟩:=fields_len s []
 obtain ⟨G3,v,f3,n3,o3,g3W,hv3,off3,z3⟩:=words_run (cp:=cp) (t:=t) (fuel:=fuel) (e:=e3) T S C.na C.nb hfu hs f2 (Nat.le_refl _) (by omega) g2W (by rw [← he3,← he2];simp only [go_sem,↓op_app,reduceCtorEq,Nat.reduceAdd,Nat.reduceSub,Nat.reduceMul,Nat.reduceEqDiff,Nat.reduceLT,Nat.reduceDiv,Nat.reduceMod,Nat.reduceLeDiff,↓reduceIte]) (by rw [← he3];simp only [go_sem,↓op_app,reduceCtorEq,Nat.reduceAdd,Nat.reduceSub,Nat.reduceMul,Nat.reduceEqDiff,Nat.reduceLT,Nat.reduceDiv,Nat.reduceMod,Nat.reduceLeDiff,↓reduceIte])
 have h3:=h1.fresh kk f3
 have hw3:=f3.wf
 have hT3:P.T<G3.n:=by omega
 have g3T:=h3.at_
 generalize hG4:G3.put P.T (.cells [.int 3 (j+1)])=G4
 have h4:JG P (lpS P 1 0) (j+1) acc bx G4:=by rw [← hG4];exact h3.putT kk
 have g4n:G4.n=G3.n:=by rw [← hG4,Heap.n_put]
 have g4W:G4.get G1.n = .cells [v]:=by rw [← hG4,Heap.get_put hw3 hT3,if_neg (by omega)];exact g3W
 have hv4:WS G4 v (fieldsP s):=by rw [← hG4];exact hv3.put hw3 hT3 (off3 _ (by omega))
 have fl1:(fieldsP s).length<999999:=by show (fieldsGo s []).length<_;omega
 obtain ⟨G5,h5,z5⟩:=parse_q3_bad (cp:=cp) (fuel:=fuel) (W:=G1.n) hA T S kk re k0 h4 (by omega) g4W (by omega) hv4 fl1 (fun w hw=>⟨(fx w hw).1,by have:=(fx w hw).2;simp at this;omega⟩) hacc hb hbad
 have e1:(j+1) % 18446744073709551616=j+1:=by omega
 refine ⟨G5.put P.y (lpS P 2 1),h5.putY kk re,fun d k => ?_⟩
 rw [callP_yld]
 refine evY_outC (n:=0) (e1:=pset ⟨.i0, .i2, .i4⟩ (tv s) P.e0) (e2:=e2) (H2:=G) h.lp (fun f=>by simp only [go_sem,reduceCtorEq,↓reduceIte]) (fun kn kx => ?_) h.lp hw hyG (fun kn kx x hx => ?_) h5.lp h5.f.wf (by have:=h5.n;omega)
 ·rw [C.a]
  simp only [go_sem,↓op_app,reduceCtorEq,Nat.reduceAdd,Nat.reduceSub,Nat.reduceMul,Nat.reduceEqDiff,Nat.reduceLT,Nat.reduceDiv,Nat.reduceMod,Nat.reduceLeDiff,↓reduceIte,c11a,he2]
 ·rw [C.b]
  have hG1':G.put P.y (.loop 1 0 P.e0 [⟨.i0, .i2, .i4⟩] r11.1 r11.2)=G1:=hG1
  rw [hG1']
  simp only [go_sem,↓op_app,reduceCtorEq,Nat.reduceAdd,Nat.reduceSub,Nat.reduceMul,Nat.reduceEqDiff,Nat.reduceLT,Nat.reduceDiv,Nat.reduceMod,Nat.reduceLeDiff,↓reduceIte,c11b,hw1,he3,hG2]
  refine z3 d _ _ x ?_
  have q7:pget ⟨.i0, .i0, .i7⟩ e3 = .ptr P.T 0:=by rw [← he3,← he2];simp only [go_sem,↓op_app,reduceCtorEq,Nat.reduceAdd,Nat.reduceSub,Nat.reduceMul,Nat.reduceEqDiff,Nat.reduceLT,Nat.reduceDiv,Nat.reduceMod,Nat.reduceLeDiff,↓reduceIte,he.a7]
  simp only [go_sem,↓op_app,reduceCtorEq,Nat.reduceAdd,Nat.reduceSub,Nat.reduceMul,Nat.reduceEqDiff,Nat.reduceLT,Nat.reduceDiv,Nat.reduceMod,Nat.reduceLeDiff,↓reduceIte,c11q2,q7,g3T,e1,hw3,hT3,hG4]
  refine z5 d _ _ _ x ⟨?_, ?_, ?_, ?_, ?_, ?_⟩ (fun e' => ?_)
  ·simp only [go_sem,↓op_app,reduceCtorEq,Nat.reduceAdd,Nat.reduceSub,Nat.reduceMul,Nat.reduceEqDiff,Nat.reduceLT,Nat.reduceDiv,Nat.reduceMod,Nat.reduceLeDiff,↓reduceIte,← he3,← he2,he.a2]
  ·simp only [go_sem,↓op_app,reduceCtorEq,Nat.reduceAdd,Nat.reduceSub,Nat.reduceMul,Nat.reduceEqDiff,Nat.reduceLT,Nat.reduceDiv,Nat.reduceMod,Nat.reduceLeDiff,↓reduceIte,← he3,← he2,he.a3]
  ·simp only [go_sem,↓op_app,reduceCtorEq,Nat.reduceAdd,Nat.reduceSub,Nat.reduceMul,Nat.reduceEqDiff,Nat.reduceLT,Nat.reduceDiv,Nat.reduceMod,Nat.reduceLeDiff,↓reduceIte,← he3,← he2,he.a4]
  ·simp only [go_sem,↓op_app,reduceCtorEq,Nat.reduceAdd,Nat.reduceSub,Nat.reduceMul,Nat.reduceEqDiff,Nat.reduceLT,Nat.reduceDiv,Nat.reduceMod,Nat.reduceLeDiff,↓reduceIte,← he3,← he2,he.a6]
  ·simp only [go_sem,↓op_app,reduceCtorEq,Nat.reduceAdd,Nat.reduceSub,Nat.reduceMul,Nat.reduceEqDiff,Nat.reduceLT,Nat.reduceDiv,Nat.reduceMod,Nat.reduceLeDiff,↓reduceIte,← he3,← he2,he.a7]
  ·simp only [go_sem,↓op_app,reduceCtorEq,Nat.reduceAdd,Nat.reduceSub,Nat.reduceMul,Nat.reduceEqDiff,Nat.reduceLT,Nat.reduceDiv,Nat.reduceMod,Nat.reduceLeDiff,↓reduceIte,← he3]
  ·exact hx e'
theorem parse_loop_bad (hA:t 27=some (.nat nAs)) (T:TCode t) (S:SNat t dec num) (C:CPs cp) (hfu:1000001<fuel) {P:PC} (kk:P.OK) {R0 E0 M m A Cc:Nat} (re:RE P R0 E0) (k0:PR0 P R0 E0 M m) (he:PE0 P R0 E0 M P.e0) {s:List UInt8} (hs:s.length<999990) {c a:Nat} (ho:parseGo num (linesP s) 0 [] = .error (c,a))
  (hf:Fresh P.H P.Hb) (hl:P.Hb.get P.y=lpS P 0 0) (hT:P.Hb.get P.T = .cells [.int 3 0]) (hO:P.Hb.get P.O = .cells [.nils]) (hB:P.Hb.get P.B = .cells [tv s])
  (hA':P.Hb.get A = .cells [tv [10]]) (hC:P.Hb.get Cc = .cells [.int 3 0]) (nA:A<P.Hb.n∧A≠P.O∧A≠P.T∧A≠P.B∧A≠P.y) (nC:Cc<P.Hb.n∧Cc≠P.O∧Cc≠P.T∧Cc≠P.B∧Cc≠P.y) :
  ∃ G,FG P R0 E0 (lpS P 2 1) c a G ∧ ∀ (d:Nat) (k:K),callP (evP cp t fuel (d+5)) (.func 114 [.ptr A 0, .ptr P.B 0, .ptr Cc 0]) [.yld P.y] P.Hb k=k (.tup []) G:=by
 have lines:=lines_len s
 have L:LI cp t fuel s P.B A Cc P.y 3 (fun j G => ∃ acc bx,parseGo num ((linesP s).take j) 0 [] = .ok acc∧acc.length≤4096∧JG P (lpS P 0 0) j acc bx G) (fun _ G=>FG P R0 E0 (lpS P 2 1) c a G):=by
  refine ⟨fun j G ⟨acc,bx,h1,h2,h3⟩=>⟨(h3.same A nA.1 nA.2.1 nA.2.2.1 nA.2.2.2.1 nA.2.2.2.2).trans hA',(h3.same Cc nC.1 nC.2.1 nC.2.2.1 nC.2.2.2.1 nC.2.2.2.2).trans hC,h3.f.wf,by have:=h3.n;have:=kk.lB;omega⟩,
   fun j G x ⟨acc,bx,h1,h2,h3⟩=>⟨acc,x,h1,h2,h3.putB kk⟩,
   fun j G x ⟨acc,bx,h1,h2,h3⟩=>(h3.putB kk (x:=x)).bB,
   fun j w G hw ⟨acc,bx,h1,h2,h3⟩ => ?_⟩
  have h5:=parseGo_next hw h1
  have hjl:j < (linesP s).length:=by
   rcases Nat.lt_or_ge j (linesP s).length with h | h
   ·exact h
   ·rw [List.getElem?_eq_none h] at hw;cases hw
  have hwl:=lines.2 w (List.mem_of_getElem? hw)
  rcases parseGo_fail ho (j+1) with ⟨acc',h4⟩ | h4
  ·rw [h4] at h5
   obtain ⟨G',g1,g2⟩:=parse_round (cp:=cp) (t:=t) (fuel:=fuel) T S C hfu kk k0 he h3 (s:=w) (by omega) (by omega) h2 (parseGo_one h5.symm h2)
   exact Or.inl ⟨G',⟨acc',bx,h4,parseGo_len num _ _ _ _ (by simp) h4,g1⟩,g1.bB.trans h3.bB.symm,fun d k=>g2 d k⟩
  ·rw [h4] at h5
   obtain ⟨rfl,b1,rfl,b2⟩:=parseGo_bad h5.symm h2
   obtain ⟨G',g1,g2⟩:=parse_round_bad (cp:=cp) (t:=t) (fuel:=fuel) hA T S C hfu kk re k0 he h3 (s:=w) (by omega) (by omega) h2 b1 b2
   exact Or.inr ⟨G',g1,fun d k=>g2 d k⟩
 have h0:JG P (lpS P 0 0) 0 [] (.cells [tv s]) P.Hb:=⟨hf,Nat.le_refl _,fun _ _ _ _ _ _=>rfl,hl,hT,hB, .nils,hO,Gr.nils,fun i _ b o n c s h=>by cases h⟩
 obtain ⟨G,hG,z⟩:=lines_call (cp:=cp) (fuel:=fuel) T S L hfu (by omega) ⟨[],_,by rw [List.take_zero];rfl,by simp,h0⟩ hB
 rcases hG with ⟨i,hG,_⟩ | ⟨acc,bx,g1,g2,g3⟩
 ·exact ⟨G,hG,fun d k=>z d k⟩
 ·rw [List.take_length,ho] at g1
  cases g1
theorem parse_bad (hA:t 27=some (.nat nAs)) (T:TCode t) (S:SNat t dec num) (C:CPs cp) (hw:H.wf) (hfu:1000001<fuel) {s:List UInt8} (hs:s.length<999990) {c a:Nat} (ho:parseGo num (linesP s) 0 [] = .error (c,a)) :
  ∃ G q,Fresh H G∧H.n≤q∧q<G.n∧G.get q = .cells [.int 3 c, .int 3 a] ∧ ∀ (d:Nat) (k:K),callP (evP cp t fuel (d+6)) (.func 22 []) [tv s] H k=k (.tup [.nils, .iface 43 (.ptr q 0)]) G:=by
 obtain ⟨P,Hc,M,m,B,z⟩:=parse_pre (cp:=cp) (t:=t) (fuel:=fuel) T hw hfu s
 have kk:=B.ok
 have hy:=B.y
 have hn:=B.n
 have lo:=B.lo
 have re:RE P H.n (H.n+1):=⟨by rw [B.pH];exact Nat.le_refl _,by rw [B.pH];omega,by omega,by omega,by omega,by omega,by omega,by omega,by omega,by omega,by omega,by omega,by omega,B.zr0,B.e0⟩
 obtain ⟨G,h,zl⟩:=parse_loop_bad (cp:=cp) (t:=t) (fuel:=fuel) (A:=P.B+1) (Cc:=P.B+1+1) hA T S C hfu kk re B.k0 B.he hs ho (by rw [B.pH];exact B.f) B.lp B.T B.O B.B B.A B.C (by omega) (by omega)
 have ly:P.y<G.n:=by have:=h.n;omega
 obtain ⟨hf,hG,h3,h4,q,h5,h6,h7,h8⟩:=h.putY kk re (lp':=lpS P 3 1)
 rw [B.pH] at hf
 have hfn:=B.f.n
 refine ⟨_,q,hf,by omega,h8,h6,fun d k => ?_⟩
 refine z d k _ fun kn kx hkn hkx => ?_
 have hz:∀ k:K,callP (evP cp t fuel (d+5)) (.func 114 [.ptr (P.B+1) 0, .ptr P.B 0, .ptr (P.B+1+1) 0]) [.yld (Hc.n+1)] ((Hc.new .mark).new (.loop 0 0 P.e0 [⟨.i0, .i2, .i4⟩] r11.1 r11.2)) k=k (.tup []) G:=fun k=>by
  have h1:=zl d k
  rw [B.hb,show P.y=Hc.n+1 by rw [B.cn];exact hy] at h1
  exact h1
 have hwG:=h.f.wf
 rw [evC_rangeF_out (n:=0) B.cw B.g23 rfl hz (by rw [show Hc.n+1=P.y by rw [B.cn];exact hy.symm];exact h.lp) hwG (by rw [show Hc.n+1=P.y by rw [B.cn];exact hy.symm];exact ly),hkx]
 rw [show Hc.n+1=P.y by rw [B.cn];exact hy.symm]
 have q2:=B.he.a2
 have q3:=B.he.a3
 have h4':(G.put P.y (.loop 3 (0+1) P.e0 [⟨.i0, .i2, .i4⟩] r11.1 r11.2)).get H.n = .cells [.nils]:=h4
 have h5':(G.put P.y (.loop 3 (0+1) P.e0 [⟨.i0, .i2, .i4⟩] r11.1 r11.2)).get (H.n+1) = .cells [.iface 43 (.ptr q 0)]:=h5
 rw [retF_11,q2,q3]
 generalize G.put P.y (.loop 3 (0+1) P.e0 [⟨.i0, .i2, .i4⟩] r11.1 r11.2)=G9 at h4' h5'
 simp only [go_sem,↓op_app,reduceCtorEq,Nat.reduceAdd,Nat.reduceSub,Nat.reduceMul,Nat.reduceEqDiff,Nat.reduceLT,Nat.reduceDiv,Nat.reduceMod,Nat.reduceLeDiff,↓reduceIte,h4',h5',isOne_iface]
end
end Go.Ev
end
section
namespace Go.Ev
theorem bf_rem {id half a b:Nat} {f:Nat→R} (ha:a<half) (hb:b<half) (h0:b≠0):evBF id (.rem half) a b f=f (a % b):=by
 show ifB (Nat.blt a half) (ifB (Nat.blt b half) (ifB (Nat.beq b 0) (no 0) (forceN (Nat.mod a b) f)) (no 0)) (no 0)=_
 rw [ifB_if,if_pos (by rw [Nat.blt_eq];exact ha),ifB_if,if_pos (by rw [Nat.blt_eq];exact hb),ifB_if,if_neg (by rw [nbeq];exact h0),forceN_eq]
 rfl
theorem bf_quo {id half a b:Nat} {f:Nat→R} (ha:a<half) (hb:b<half) (h0:b≠0):evBF id (.quo half) a b f=f (a / b):=by
 show ifB (Nat.blt a half) (ifB (Nat.blt b half) (ifB (Nat.beq b 0) (no 0) (forceN (Nat.div a b) f)) (no 0)) (no 0)=_
 rw [ifB_if,if_pos (by rw [Nat.blt_eq];exact ha),ifB_if,if_pos (by rw [Nat.blt_eq];exact hb),ifB_if,if_neg (by rw [nbeq];exact h0),forceN_eq]
 rfl
theorem decD_split {n:Nat} (h1:10≤n) (h2:n<10000):decD n=decD (n / 10) ++ decD (n % 10):=by
 have a1:n % 10<10:=by omega
 have a2:n / 10 / 10=n / 100:=by omega
 have a3:n / 10 / 100=n / 1000:=by omega
 have a4:n / 10 % 10=n / 10 % 10:=rfl
 have a5:¬ n<10:=by omega
 have a6:n / 10 / 10 % 10=n / 100 % 10:=by omega
 rw [show decD (n % 10)=[UInt8.ofNat (48+n % 10)] by unfold decD;rw [if_pos a1]]
 unfold decD
 rw [if_neg a5]
 by_cases b1:n<100
 ·rw [if_pos b1,if_pos (by omega)]
  rfl
 ·rw [if_neg b1,if_neg (show ¬ n / 10<10 by omega)]
  by_cases b2:n<1000
  ·rw [if_pos b2,if_pos (show n / 10<100 by omega),a2]
   rfl
  ·rw [if_neg b2,if_neg (show ¬ n / 10<100 by omega),if_pos (show n / 10<1000 by omega),a3,a6]
   rfl
section
variable {t:Nat→Option FnE} {cp:RC→CodeE} {fuel:Nat}
theorem digit_one (T:TCode t) {n:Nat} (hn:n<10) {H:Heap} (hw:H.wf):∃ G,Fresh H G ∧ ∀ (d:Nat) (k:K),callP (evP cp t fuel (d+1)) (.func 80 []) [.int 3 n] H k=k (tv (decD n)) G:=by
 refine ⟨_,Fresh.new hw (x := .bytes 1 (48+n)),fun d k => ?_⟩
 have e1:nn n:=by unfold nn;omega
 have e3:n % 256=n:=by omega
 have e4:(48+n) % 256=48+n:=by omega
 have e5:V.str 1 ((48+n) >>> 0 % 256 ^ 1)=tv (decD n):=by
  have h1:decD n=[UInt8.ofNat (48+n)]:=by unfold decD;rw [if_pos hn]
  rw [h1,tv_cons,toNat_ofNat (by omega),Nat.shiftRight_zero]
  simp only [enc,List.length_nil]
  congr 1
 rw [call_entry T.k40 rfl rfl]
 simp only [go_sem,↓op_app,reduceCtorEq,Nat.reduceAdd,Nat.reduceSub,Nat.reduceMul,Nat.reduceEqDiff,Nat.reduceLT,Nat.reduceDiv,Nat.reduceMod,Nat.reduceLeDiff,↓reduceIte,c40,e1,hn,e3,e4,hw,e5]
theorem digits_call (T:TCode t):∀ (q n:Nat),n<10 ^ (q+1)→n<10000 → ∀ (H:Heap),H.wf → ∃ G,Fresh H G ∧ ∀ (d:Nat) (k:K),callP (evP cp t fuel (d+q+1)) (.func 80 []) [.int 3 n] H k=k (tv (decD n)) G:=by
 intro q
 induction q with
 | zero=>exact fun n hn _ H hw=>digit_one T (by omega) hw
 | succ q ih=>
  intro n hn hn2 H hw
  by_cases h10:n<10
  ·obtain ⟨G,f,z⟩:=digit_one (cp:=cp) (fuel:=fuel) T h10 hw
   exact ⟨G,f,fun d k=>z (d+(q+1)) k⟩
  ·have hp:10 ^ (q+1+1)=10 ^ (q+1) * 10:=Nat.pow_succ ..
   have hp1:10≤10 ^ (q+1):=by
    have:0<10 ^ q:=Nat.pow_pos (by decide)
    rw [Nat.pow_succ];omega
   obtain ⟨G1,f1,z1⟩:=ih (n / 10) (by omega) (by omega) H hw
   obtain ⟨G2,f2,z2⟩:=ih (n % 10) (by omega) (by omega) G1 f1.wf
   refine ⟨G2,f1.trans f2,fun d k => ?_⟩
   have e1:nn n:=by unfold nn;omega
   have zr1:∀ {id:Nat} {f:Nat→R},evBF id (.quo 9223372036854775808) n 10 f=f (n / 10):=fun {id f}=>bf_quo (by omega) (by omega) (by omega)
   have zr2:∀ {id:Nat} {f:Nat→R},evBF id (.rem 9223372036854775808) n 10 f=f (n % 10):=fun {id f}=>bf_rem (by omega) (by omega) (by omega)
   have z1':=fun {k:K}=>z1 d k
   have z2':=fun {k:K}=>z2 d k
   have e5:V.str ((decD (n / 10)).length+(decD (n % 10)).length) (enc (decD (n / 10))+enc (decD (n % 10)) * 256 ^ (decD (n / 10)).length)=tv (decD n):=by
    rw [tv_append,← decD_split (by omega) hn2]
   show callP (evP cp t fuel (d+q+1+1)) (.func 80 []) [.int 3 n] H k=_
   rw [call_entry T.k40 rfl rfl]
   simp only [go_sem,↓op_app,reduceCtorEq,Nat.reduceAdd,Nat.reduceSub,Nat.reduceMul,Nat.reduceEqDiff,Nat.reduceLT,Nat.reduceDiv,Nat.reduceMod,Nat.reduceLeDiff,↓reduceIte,c40,e1,h10,zr1,zr2,z1',z2',vStr_tv,hw]
   have h1:=decD_len (n / 10)
   have h2:=decD_len (n % 10)
   rw [if_pos (by omega),e5]
theorem within2_call (T:TCode t) {n m:Nat} {H:Heap} (hn:n<18446744073709551616) (hm:m<18446744073709551616) (d:Nat) (k:K):callP (evP cp t fuel (d+1)) (.func 76 []) [.int 3 n, .int 3 m] H k=k (.bool (within n m)) H:=by
 have e1:=ge0 hn
 have e2:=max0 hm
 have e3:nn (if m<9223372036854775808 then m else 0):=by unfold nn;split <;> omega
 rw [call_entry T.k38 rfl rfl]
 by_cases h:n<9223372036854775808
 ·have e4:nn n:=h
  simp only [go_sem,↓op_app,reduceCtorEq,Nat.reduceAdd,Nat.reduceSub,Nat.reduceMul,Nat.reduceEqDiff,Nat.reduceLT,Nat.reduceDiv,Nat.reduceMod,Nat.reduceLeDiff,↓reduceIte,c38,e1,e2,e3,e4,h]
  by_cases h2:n≤(if m<9223372036854775808 then m else 0)
  ·simp only [within,h,h2,if_true,decide_true,Bool.and_self]
  ·simp only [within,h,h2,if_false,decide_true,decide_false,Bool.and_false]
 ·simp only [go_sem,↓op_app,reduceCtorEq,Nat.reduceAdd,Nat.reduceSub,Nat.reduceMul,Nat.reduceEqDiff,Nat.reduceLT,Nat.reduceDiv,Nat.reduceMod,Nat.reduceLeDiff,↓reduceIte,c38,e1,h]
  simp only [within,h,decide_false,Bool.false_and]
def dataB (s:List UInt8):Bool:=decide (s≠[]) && decide (s.length≤32) && !s.any oddB
theorem data_loop (T:TCode t) {s:List UInt8} {H:Heap} (hs:s.length≤32):∀ (m i:Nat),i+m=s.length→(s.take i).any oddB=false → ∀ (ph:Phi) (kx:Nat→KE) (r:Nat) (e:Env),m<r→pget ⟨.i0, .i0, .i0⟩ e=tv s→pget ⟨.i0, .i0, .i3⟩ e = .int 3 i →
  ∀ x:R,(s.any oddB=false → ∀ e',kx 1 e' H=x)→(s.any oddB=true → ∀ e',pget ⟨.i0, .i0, .i2⟩ e' = .bool false→kx 0 e' H=x)→evL c39l0 fuel ph kx r e H=x:=by
 intro m
 induction m with
 | zero=>
  intro i hi ht ph kx r e hr h0 h3 x hY hN
  obtain ⟨r,rfl⟩:∃ q,r=q+1:=⟨r-1,by omega⟩
  obtain rfl:i=s.length:=by omega
  have e1:nn s.length:=by unfold nn;omega
  have e2:¬ s.length<s.length:=by omega
  have e3:s.length<9223372036854775808:=by omega
  rw [evL_succ]
  simp only [go_sem,↓op_app,reduceCtorEq,Nat.reduceAdd,Nat.reduceSub,Nat.reduceMul,Nat.reduceEqDiff,Nat.reduceLT,Nat.reduceDiv,Nat.reduceMod,Nat.reduceLeDiff,↓reduceIte,c39l0,h0,h3,vStr_tv,e1,e2,e3]
  rw [List.take_length] at ht
  exact hY ht _
 | succ m ih=>
  intro i hi ht ph kx r e hr h0 h3 x hY hN
  obtain ⟨r,rfl⟩:∃ q,r=q+1:=⟨r-1,by omega⟩
  have hlt:i<s.length:=by omega
  have g1:s[i]? = some s[i]:=List.getElem?_eq_getElem hlt
  have hE:=enc_at s i hlt
  have hst:(s.take (i+1)).any oddB=oddB s[i]:=by
   rw [List.take_succ_eq_append_getElem hlt,List.any_append,ht]
   simp
  have hmem:s[i] ∈ s:=List.getElem_mem hlt
  have e1:nn i:=by unfold nn;omega
  have e2:nn s.length:=by unfold nn;omega
  have e3:s.length<9223372036854775808:=by omega
  have e4:i<9223372036854775808:=by omega
  have e5:(i+1) % 18446744073709551616=i+1:=by omega
  generalize s[i]=b at hE hst hmem
  have hb:=b.toNat_lt
  have l1:(evCF (.lt 0 256) b.toNat 33=true)=(b.toNat<33):=by rw [cf_lt];apply propext;omega
  have l2:(evCF (.gt 0 256) b.toNat 126=true)=(126<b.toNat):=by rw [cf_gt];apply propext;omega
  have hodd:oddB b=true→s.any oddB=true:=fun h=>List.any_eq_true.2 ⟨b,hmem,h⟩
  rw [evL_succ]
  by_cases q1:b.toNat<33
  ·simp only [go_sem,↓op_app,reduceCtorEq,Nat.reduceAdd,Nat.reduceSub,Nat.reduceMul,Nat.reduceEqDiff,Nat.reduceLT,Nat.reduceDiv,Nat.reduceMod,Nat.reduceLeDiff,↓reduceIte,c39l0,h0,h3,vStr_tv,e1,e2,e3,e4,e5,hlt,hE,l1,q1]
   exact hN (hodd (by simp [oddB,q1])) _ (by simp only [go_sem,reduceCtorEq,↓reduceIte])
  ·by_cases q2:126<b.toNat
   ·simp only [go_sem,↓op_app,reduceCtorEq,Nat.reduceAdd,Nat.reduceSub,Nat.reduceMul,Nat.reduceEqDiff,Nat.reduceLT,Nat.reduceDiv,Nat.reduceMod,Nat.reduceLeDiff,↓reduceIte,c39l0,h0,h3,vStr_tv,e1,e2,e3,e4,e5,hlt,hE,l1,l2,q1,q2]
    exact hN (hodd (by simp [oddB,q2])) _ (by simp only [go_sem,reduceCtorEq,↓reduceIte])
   ·simp only [go_sem,↓op_app,reduceCtorEq,Nat.reduceAdd,Nat.reduceSub,Nat.reduceMul,Nat.reduceEqDiff,Nat.reduceLT,Nat.reduceDiv,Nat.reduceMod,Nat.reduceLeDiff,↓reduceIte,c39l0,h0,h3,vStr_tv,e1,e2,e3,e4,e5,hlt,hE,l1,l2,q1,q2]
    refine ih (i+1) (by omega) (by rw [hst];simp [oddB,q1,q2]) ph kx r _ (by omega) ?_ ?_ x hY hN <;> simp only [go_sem,reduceCtorEq,↓reduceIte,h0]
theorem data_call (T:TCode t) {s:List UInt8} {H:Heap} (hs:s.length<9223372036854775808) (hfu:100<fuel) (d:Nat) (k:K):callP (evP cp t fuel (d+1)) (.func 78 []) [tv s] H k=k (.bool (dataB s)) H:=by
 have e1:nn s.length:=hs
 rw [call_entry T.k39 rfl rfl]
 by_cases h1:s.length<1
 ·have:s=[]:=List.eq_nil_of_length_eq_zero (by omega)
  have hd:dataB s=false:=by rw [this];rfl
  rw [hd]
  simp only [go_sem,↓op_app,reduceCtorEq,Nat.reduceAdd,Nat.reduceSub,Nat.reduceMul,Nat.reduceEqDiff,Nat.reduceLT,Nat.reduceDiv,Nat.reduceMod,Nat.reduceLeDiff,↓reduceIte,c39,vStr_tv,hs,e1,h1]
 ·have hne:s≠[]:=fun h=>h1 (by rw [h];simp)
  by_cases h2:32<s.length
  ·have hd:dataB s=false:=by simp [dataB];omega
   rw [hd]
   simp only [go_sem,↓op_app,reduceCtorEq,Nat.reduceAdd,Nat.reduceSub,Nat.reduceMul,Nat.reduceEqDiff,Nat.reduceLT,Nat.reduceDiv,Nat.reduceMod,Nat.reduceLeDiff,↓reduceIte,c39,vStr_tv,hs,e1,h1,h2]
  ·have hd:dataB s = !s.any oddB:=by simp [dataB,hne];omega
   rw [hd]
   simp only [go_sem,↓op_app,reduceCtorEq,Nat.reduceAdd,Nat.reduceSub,Nat.reduceMul,Nat.reduceEqDiff,Nat.reduceLT,Nat.reduceDiv,Nat.reduceMod,Nat.reduceLeDiff,↓reduceIte,c39,vStr_tv,hs,e1,h1,h2]
   refine data_loop (s:=s) (H:=H) T (by omega) s.length 0 (by omega) (by simp) _ _ fuel _ (by omega) ?_ ?_ _ (fun h e' => ?_) (fun h e' h2 => ?_)
   ·simp only [go_sem,reduceCtorEq,↓reduceIte]
   ·simp only [go_sem,reduceCtorEq,↓reduceIte]
   ·simp only [go_sem,↓op_app,reduceCtorEq,Nat.reduceAdd,Nat.reduceSub,Nat.reduceMul,Nat.reduceEqDiff,Nat.reduceLT,Nat.reduceDiv,Nat.reduceMod,Nat.reduceLeDiff,↓reduceIte,h]
   ·simp only [go_sem,↓op_app,reduceCtorEq,Nat.reduceAdd,Nat.reduceSub,Nat.reduceMul,Nat.reduceEqDiff,Nat.reduceLT,Nat.reduceDiv,Nat.reduceMod,Nat.reduceLeDiff,↓reduceIte,h,h2]
end
end Go.Ev
end
section
namespace Go.Ev
section
variable {t:Nat→Option FnE} {cp:RC→CodeE} {fuel:Nat} {H:Heap}
theorem same_loop (T:TCode t) {v w:V} {es fs:List Stp} (hl:StAt H v es) (hq:StAt H w fs) (hw:H.wf) (hlen:fs.length=es.length) (hn:es.length<1000000) :
  ∀ (m i:Nat),i+m=es.length→es.take i=fs.take i → ∀ (ph:Phi) (kx:Nat→KE) (r:Nat) (e:Env),m<r→pget ⟨.i0, .i0, .i0⟩ e=v→pget ⟨.i0, .i0, .i1⟩ e=w→pget ⟨.i0, .i0, .i5⟩ e = .int 3 i →
   ∀ x:R,(es=fs → ∀ e',kx 1 e' H=x)→(es≠fs → ∀ e',pget ⟨.i0, .i0, .i4⟩ e' = .bool false→kx 0 e' H=x) →
   evL c13l0 fuel ph kx r e H=x:=by
 have hs:=fun {id:Nat} {f:Nat→R}=>hl.sn (id:=id) (f:=f)
 intro m
 induction m with
 | zero=>
  intro i hi ht ph kx r e hr h0 h1 h5 x hY hN
  obtain ⟨r,rfl⟩:∃ q,r=q+1:=⟨r-1,by omega⟩
  obtain rfl:i=es.length:=by omega
  have e1:¬ es.length<es.length:=by omega
  have e2:nn es.length:=by unfold nn;omega
  have e8:es.length<9223372036854775808:=by omega
  rw [evL_succ]
  simp only [go_sem,↓op_app,reduceCtorEq,Nat.reduceAdd,Nat.reduceSub,Nat.reduceMul,Nat.reduceEqDiff,Nat.reduceLT,Nat.reduceDiv,Nat.reduceMod,Nat.reduceLeDiff,↓reduceIte,c13l0,h0,h1,h5,↓hs,e1,e2,e8]
  refine hY ?_ _
  rwa [List.take_of_length_le (by omega),List.take_of_length_le (by omega)] at ht
 | succ m ih=>
  intro i hi ht ph kx r e hr h0 h1 h5 x hY hN
  obtain ⟨r,rfl⟩:∃ q,r=q+1:=⟨r-1,by omega⟩
  have hlt:i<es.length:=by omega
  have g1:es[i]? = some es[i]:=List.getElem?_eq_getElem hlt
  have g2:fs[i]? = some fs[i]:=List.getElem?_eq_getElem (by omega)
  obtain ⟨b,o,c,s,hv,zr1⟩:=hl.four g1
  obtain ⟨b',o',c',s',hv',zr2⟩:=hq.four g2
  rw [hlen] at hv'
  have e1:nn i:=by unfold nn;omega
  have e2:nn es.length:=by unfold nn;omega
  have e3:i<9223372036854775808:=by omega
  have e8:es.length<9223372036854775808:=by omega
  have e9:(i+1) % 18446744073709551616=i+1:=by omega
  have hst:es[i]=fs[i]→es.take (i+1)=fs.take (i+1):=fun he=>by
   rw [List.take_succ_eq_append_getElem hlt,List.take_succ_eq_append_getElem (by omega),ht,he]
  have hne:es[i]≠fs[i]→es≠fs:=fun he h=>he (by subst h;rfl)
  generalize es[i]=ea at zr1 hst hne
  generalize fs[i]=eb at zr2 hst hne
  subst hv
  rw [hv'] at h1
  have z:∀ {id:Nat} {ph:Phi} {e':Env} {H:Heap} {k:K},pgetA (.s ⟨.i0, .i2, .i4⟩) e' = .agg ea.cells→pgetA (.s ⟨.i0, .i3, .i0⟩) e' = .agg eb.cells→evOp (.aggEq [1,1,1,2] true (.s ⟨.i0, .i2, .i4⟩) (.s ⟨.i0, .i3, .i0⟩)) id ph e' H k=k (.bool (if ea=eb then !true else true)) H:=fun {id ph e' H k} p q=>op_aggEqS p q
  rw [evL_succ]
  by_cases q1:ea=eb
  ·rw [if_pos q1] at z
   simp only [go_sem,↓op_app,reduceCtorEq,Nat.reduceAdd,Nat.reduceSub,Nat.reduceMul,Nat.reduceEqDiff,Nat.reduceLT,Nat.reduceDiv,Nat.reduceMod,Nat.reduceLeDiff,↓reduceIte,c13l0,h0,h1,h5,hlt,e1,e2,e3,e8,e9,zr1,zr2,hw,↓z]
   refine ih (i+1) (by omega) (hst q1) ph kx r _ (by omega) ?_ ?_ ?_ x hY hN
   ·simp only [go_sem,reduceCtorEq,↓reduceIte,h0]
   ·simp only [go_sem,↓op_app,reduceCtorEq,Nat.reduceAdd,Nat.reduceSub,Nat.reduceMul,Nat.reduceEqDiff,Nat.reduceLT,Nat.reduceDiv,Nat.reduceMod,Nat.reduceLeDiff,↓reduceIte,h1,hv']
   ·simp only [go_sem,reduceCtorEq,↓reduceIte]
  ·rw [if_neg q1] at z
   simp only [go_sem,↓op_app,reduceCtorEq,Nat.reduceAdd,Nat.reduceSub,Nat.reduceMul,Nat.reduceEqDiff,Nat.reduceLT,Nat.reduceDiv,Nat.reduceMod,Nat.reduceLeDiff,↓reduceIte,c13l0,h0,h1,h5,hlt,e1,e2,e3,e8,e9,zr1,zr2,hw,↓z]
   exact hN (hne q1) _ (by simp only [go_sem,reduceCtorEq,↓reduceIte])
theorem same_call (T:TCode t) {v w:V} {es fs:List Stp} (hw:H.wf) (hl:StAt H v es) (hq:StAt H w fs) (hn:es.length<1000000) (hm:fs.length<1000000) (hfu:1000001<fuel) (d:Nat) (k:K) :
  callP (evP cp t fuel (d+1)) (.func 26 []) [v,w] H k=k (.bool (decide (es=fs))) H:=by
 have hs:=fun {id:Nat} {f:Nat→R}=>hl.sn (id:=id) (f:=f)
 have hs2:=fun {id:Nat} {f:Nat→R}=>hq.sn (id:=id) (f:=f)
 have e8:es.length<9223372036854775808:=by omega
 have e9:fs.length<9223372036854775808:=by omega
 rw [call_entry T.k13 rfl rfl]
 by_cases hlen:es.length=fs.length
 ·rw [← hlen] at hs2 e9
  simp only [go_sem,↓op_app,reduceCtorEq,Nat.reduceAdd,Nat.reduceSub,Nat.reduceMul,Nat.reduceEqDiff,Nat.reduceLT,Nat.reduceDiv,Nat.reduceMod,Nat.reduceLeDiff,↓reduceIte,c13,↓hs,↓hs2,e8,e9]
  refine same_loop (H:=H) T hl hq hw hlen.symm hn es.length 0 (by omega) rfl _ _ fuel _ (by omega) ?_ ?_ ?_ _ (fun he e' => ?_) (fun he e' h4 => ?_)
  ·simp only [go_sem,reduceCtorEq,↓reduceIte]
  ·simp only [go_sem,reduceCtorEq,↓reduceIte]
  ·simp only [go_sem,reduceCtorEq,↓reduceIte]
  ·simp only [go_sem,↓op_app,reduceCtorEq,Nat.reduceAdd,Nat.reduceSub,Nat.reduceMul,Nat.reduceEqDiff,Nat.reduceLT,Nat.reduceDiv,Nat.reduceMod,Nat.reduceLeDiff,↓reduceIte,decide_eq_true he]
  ·simp only [go_sem,↓op_app,reduceCtorEq,Nat.reduceAdd,Nat.reduceSub,Nat.reduceMul,Nat.reduceEqDiff,Nat.reduceLT,Nat.reduceDiv,Nat.reduceMod,Nat.reduceLeDiff,↓reduceIte,h4,decide_eq_false he]
 ·have hne:es≠fs:=fun h=>hlen (by rw [h])
  simp only [go_sem,↓op_app,reduceCtorEq,Nat.reduceAdd,Nat.reduceSub,Nat.reduceMul,Nat.reduceEqDiff,Nat.reduceLT,Nat.reduceDiv,Nat.reduceMod,Nat.reduceLeDiff,↓reduceIte,c13,↓hs,↓hs2,e8,e9,hlen,decide_eq_false hne]
theorem as_fault (hA:t 27=some (.nat nAs)) {H:Heap} {k:K} {d b q:Nat} (hb:H.get b = .cells [.nilp]) (hw:H.wf) (hn:b<H.n):callP (evP cp t fuel (d+1)) (.func 54 []) [.iface 43 (.ptr q 0), .iface 74 (.ptr b 0)] H k=k (.bool true) (H.put b (.cells [.ptr q 0])):=by
 rw [call_nat hA rfl rfl]
 show nAs [.iface 43 (.ptr q 0), .iface 74 (.ptr b 0)] H k=_
 simp only [nAs,hb,and_self,if_true]
 exact hSet_put hw hn
theorem is_code (hI:t 30=some (.nat nIs)) {H:Heap} {k:K} {d q c y:Nat} (hq:H.get q = .cells [.int 3 c, .int 3 y]):callP (evP cp t fuel (d+1)) (.func 60 []) [.iface 43 (.ptr q 0), .iface 25 (.int 3 c)] H k=k (.bool true) H:=by
 rw [call_nat hI rfl rfl]
 show nIs [.iface 43 (.ptr q 0), .iface 25 (.int 3 c)] H k=_
 simp only [nIs,hq,and_self,if_true,Nat.beq_refl]
theorem op_aggEqF {id:Nat} {ph:Phi} {e:Env} {H:Heap} {k:K} {x y:Arg} {a b:Nat} (h1:pgetA x e = .agg [.int 3 a, .int 3 b]) (h2:pgetA y e = .agg [.int 3 a, .int 3 b]):evOp (.aggEq [1,1] false x y) id ph e H k=k (.bool true) H:=by
 show getA x e (fun x=>vAgg id x fun l=>getA y e fun y=>vAgg id y fun m=>ifB (Nat.beq (lenL l) (lenNs [1,1])) (ifB (Nat.beq (lenL m) (lenNs [1,1])) (eqCs id [1,1] l m fun b=>ifB b (ifB false (k (.bool false) H) (k (.bool true) H)) (k (.bool false) H)) (no 0)) (no 0))=_
 rw [getA_eq,h1]
 show getA y e (fun y=>vAgg id y fun m=>ifB (Nat.beq (lenL [V.int 3 a,V.int 3 b]) (lenNs [1,1])) (ifB (Nat.beq (lenL m) (lenNs [1,1])) (eqCs id [1,1] [V.int 3 a,V.int 3 b] m fun b=>ifB b (ifB false (k (.bool false) H) (k (.bool true) H)) (k (.bool false) H)) (no 0)) (no 0))=_
 rw [getA_eq,h2]
 show eqCs id [1,1] [V.int 3 a,V.int 3 b] [V.int 3 a,V.int 3 b] (fun b=>ifB b (ifB false (k (.bool false) H) (k (.bool true) H)) (k (.bool false) H))=_
 rw [eqCs_int,if_pos rfl,eqCs_int,if_pos rfl,eqCs_nil]
 rfl
theorem told_none (T:TCode t) (hw:H.wf) {y:Nat}:∃ G,Fresh H G ∧ ∀ (d:Nat) (k:K),callP (evP cp t fuel (d+2)) (.func 28 []) [.nili, .agg [.int 3 0, .int 3 y]] H k=k (.bool true) G:=by
 refine ⟨H.new (.cells [.int 3 0, .int 3 y]),Fresh.new hw,fun d k => ?_⟩
 rw [call_entry T.k14 rfl rfl]
 simp only [go_sem,↓op_app,reduceCtorEq,Nat.reduceAdd,Nat.reduceSub,Nat.reduceMul,Nat.reduceEqDiff,Nat.reduceLT,Nat.reduceDiv,Nat.reduceMod,Nat.reduceLeDiff,↓reduceIte,c14,c14r1,hw,nilly_nili]
theorem told_fault (hA:t 27=some (.nat nAs)) (hI:t 30=some (.nat nIs)) (T:TCode t) (hw:H.wf) {q c y:Nat} (hq:H.get q = .cells [.int 3 c, .int 3 y]) (hqn:q<H.n) (hc:c≠0):∃ G,Fresh H G ∧ ∀ (d:Nat) (k:K),callP (evP cp t fuel (d+2)) (.func 28 []) [.iface 43 (.ptr q 0), .agg [.int 3 c, .int 3 y]] H k=k (.bool true) G:=by
 generalize hG1:H.new (.cells [.int 3 c, .int 3 y])=G1
 have f1:Fresh H G1:=by rw [← hG1];exact Fresh.new hw
 have g1n:G1.n=H.n+1:=by rw [← hG1,Heap.n_new]
 have g1F:G1.get H.n = .cells [.int 3 c, .int 3 y]:=by rw [← hG1,Heap.get_new hw,if_pos rfl]
 have hw1:=f1.wf
 generalize hG2:G1.new (.cells [.nilp])=G2
 have f12:Fresh G1 G2:=by rw [← hG2];exact Fresh.new hw1
 have f2:=f1.trans f12
 have g2n:G2.n=H.n+1+1:=by rw [← hG2,Heap.n_new,g1n]
 have g2P:G2.get (H.n+1) = .cells [.nilp]:=by rw [← hG2,Heap.get_new hw1,if_pos g1n.symm]
 have hw2:=f2.wf
 have l2:H.n+1<G2.n:=by omega
 generalize hG3:G2.put (H.n+1) (.cells [.ptr q 0])=G3
 have f3:Fresh H G3:=by rw [← hG3];exact f2.put (by omega) l2
 have g3q:G3.get q = .cells [.int 3 c, .int 3 y]:=(f3.same q hqn).trans hq
 have g3P:G3.get (H.n+1) = .cells [.ptr q 0]:=by rw [← hG3,Heap.get_put hw2 l2,if_pos rfl]
 have g3F:G3.get H.n = .cells [.int 3 c, .int 3 y]:=by rw [← hG3,Heap.get_put hw2 l2,if_neg (by omega),f12.same _ (by omega)];exact g1F
 have z1:=fun {d:Nat} {k:K}=>as_fault (cp:=cp) (fuel:=fuel) (d:=d) (k:=k) (q:=q) hA g2P hw2 l2
 rw [hG3] at z1
 have z2:=fun {d:Nat} {k:K}=>is_code (cp:=cp) (fuel:=fuel) (d:=d) (k:=k) hI g3q
 have hc':(c=0)=False:=eq_false hc
 have zq:∀ {id:Nat} {ph:Phi} {e':Env} {H:Heap} {k:K},pgetA (.s ⟨.i0, .i3, .i1⟩) e' = .agg [.int 3 c, .int 3 y]→pgetA (.s ⟨.i0, .i3, .i2⟩) e' = .agg [.int 3 c, .int 3 y]→evOp (.aggEq [1,1] false (.s ⟨.i0, .i3, .i1⟩) (.s ⟨.i0, .i3, .i2⟩)) id ph e' H k=k (.bool true) H:=fun {id ph e' H k} p q=>op_aggEqF p q
 refine ⟨G3,f3,fun d k => ?_⟩
 rw [call_entry T.k14 rfl rfl]
 simp only [go_sem,↓op_app,reduceCtorEq,Nat.reduceAdd,Nat.reduceSub,Nat.reduceMul,Nat.reduceEqDiff,Nat.reduceLT,Nat.reduceDiv,Nat.reduceMod,Nat.reduceLeDiff,↓reduceIte,c14,c14r1,hw,hG1,g1F,hc',nilly_nili,nilly_iface]
 simp only [go_sem,↓op_app,reduceCtorEq,Nat.reduceAdd,Nat.reduceSub,Nat.reduceMul,Nat.reduceEqDiff,Nat.reduceLT,Nat.reduceDiv,Nat.reduceMod,Nat.reduceLeDiff,↓reduceIte,c14r2,hw1,g1n,hG2]
 simp only [go_sem,↓op_app,reduceCtorEq,Nat.reduceAdd,Nat.reduceSub,Nat.reduceMul,Nat.reduceEqDiff,Nat.reduceLT,Nat.reduceDiv,Nat.reduceMod,Nat.reduceLeDiff,↓reduceIte,c14r3,c14r4,g2P,nilly_nili,nilly_iface,z1,g3P,g3q,g3F,↓zq,z2]
end
end Go.Ev
end
section
namespace Go.Ev
section
variable {id:Nat} {ph:Phi} {e:Env} {H:Heap} {k:K}
theorem op_appT {s x:Arg}:evOp (.app true 1 s x) id ph e H k=newBytes id H (pgetA x e) fun n new=>vSliceN id (pgetA s e) (fun b o len cp sz=>if n=0 then k (pgetA s e) H else appB id n new b o len cp sz H k)
  (if n=0 then k (pgetA s e) H else if n≤1073741824 then hNew H (.bytes n new) fun b' H=>k (.slice b' 0 n 0 1) H else no 0):=by
 show getA s e (fun s=>getA x e fun x=>newBytes id H x fun n new=>vSliceN id s (fun b o len cp sz=>Nat.rec (motive:=fun _=>R) (k s H) (fun _ _=>appB id n new b o len cp sz H k) n)
  (Nat.rec (motive:=fun _=>R) (k s H) (fun _ _=>ifB (Nat.ble n 1073741824) (hNew H (.bytes n new) fun b' H=>k (.slice b' 0 n 0 1) H) (no 0)) n))=_
 simp only [getA_eq]
 congr 1
 funext n new
 cases n with
 | zero=>rfl
 | succ n=>
  simp only [ifB_if,nble,Nat.succ_ne_zero,if_false,Nat.add_one_ne_zero]
theorem newBytes_str {l n:Nat} {f:Nat→Nat→R}:newBytes id H (.str l n) f=f l n:=Eq.trans rfl rfl
theorem newBytes_slice {b o l c s:Nat} {f:Nat→Nat→R}:newBytes id H (.slice b o l c s) f=loadB id H b o l fun m=>f l m:=Eq.trans rfl rfl
theorem loadB_bytes {b n x:Nat} {f:Nat→R} (h:H.get b = .bytes n x) (hx:x<256 ^ n):loadB id H b 0 n f=f x:=by
 rw [loadB_on,h]
 show (if 0+n≤n then f ((x >>> (8 * 0)) % 256 ^ n) else no 0)=_
 rw [if_pos (by omega),Nat.mul_zero,Nat.shiftRight_zero,Nat.mod_eq_of_lt hx]
end
theorem enc_cat (a b:List UInt8):enc (a ++ b)=enc a+enc b <<< (8 * a.length):=by
 have h:=tv_append a b
 simp only [tv,V.str.injEq] at h
 rw [← h.2,Nat.shiftLeft_eq,Nat.pow_mul]
def GrB (H G:Heap) (v:V) (l:List UInt8):Prop:=(v = .nils∧l=[]) ∨ ∃ b c s,v = .slice b 0 l.length c s∧((c=0∧s=1∧G.get b = .bytes l.length (enc l))∨(c=l.length+1∧(G.get b = .bytes l.length (enc l)∨(l=[]∧G.get b = .cells []))))∧H.n≤b∧b<G.n
def GrB0 (H G:Heap) (v:V) (l:List UInt8):Prop:=∃ b,v = .slice b 0 l.length 0 1∧G.get b = .bytes l.length (enc l)∧H.n≤b∧b<G.n
theorem GrB0.gr {H G:Heap} {v:V} {l:List UInt8} (h:GrB0 H G v l):GrB H G v l:=by
 obtain ⟨b,h1,h2,h3,h4⟩:=h
 exact Or.inr ⟨b,0,1,h1,Or.inl ⟨rfl,rfl,h2⟩,h3,h4⟩
theorem GrB0.fresh {H G G':Heap} {v:V} {l:List UInt8} (h:GrB0 H G v l) (f:Fresh G G'):GrB0 H G' v l:=by
 obtain ⟨b,h1,h2,h3,h4⟩:=h
 exact ⟨b,h1,(f.same b h4).trans h2,h3,Nat.lt_of_lt_of_le h4 f.n⟩
theorem GrB.fresh {H G G':Heap} {v:V} {l:List UInt8} (h:GrB H G v l) (f:Fresh G G'):GrB H G' v l:=by
 rcases h with h | ⟨b,c,s,h1,h2,h3,h4⟩
 ·exact Or.inl h
 ·refine Or.inr ⟨b,c,s,h1, ?_,h3,Nat.lt_of_lt_of_le h4 f.n⟩
  rw [f.same b h4]
  exact h2
theorem GrB.app {H G:Heap} {v:V} {l m:List UInt8} (f:Fresh H G) (h:GrB H G v l) (hm:m≠[]) (hb:l.length+m.length≤1000000) :
  ∃ v' G',(∀ {id:Nat} {ph:Phi} {e:Env} {k:K} {a x:Arg},pgetA a e=v→(∀ f:Nat→Nat→R,newBytes id G (pgetA x e) f=f m.length (enc m))→evOp (.app true 1 a x) id ph e G k=k v' G')∧GrB0 H G' v' (l ++ m)∧Fresh H G'∧(∀ j,j<G.n→Off v j→G'.get j=G.get j)∧G.n<G'.n ∧ ∀ j,j<G.n→Off v' j:=by
 have hw:=f.wf
 have hm0:¬ m.length=0:=fun h=>hm (List.eq_nil_of_length_eq_zero h)
 have hlen:(l ++ m).length=l.length+m.length:=List.length_append
 rcases h with ⟨rfl,rfl⟩ | ⟨b,c,s,rfl,h2,h3,h4⟩
 ·refine ⟨.slice G.n 0 m.length 0 1,G.new (.bytes m.length (enc m)),fun {id ph e k a x} ha hx => ?_,⟨G.n,by simp, ?_,f.n,by rw [Heap.n_new];omega⟩,f.trans (Fresh.new hw),fun j hj _ => ?_,by rw [Heap.n_new];omega,fun j hj b o n c s he => ?_⟩
  ·rw [op_appT,hx,ha,vSliceN_nils,if_neg hm0,if_pos (by omega),hNew_new hw]
  ·rw [Heap.get_new hw,if_pos rfl,List.nil_append]
  ·rw [Heap.get_new hw,if_neg (by omega)]
  ·cases he;omega
 ·rcases h2 with ⟨rfl,rfl,hg⟩ | ⟨rfl,hg⟩
  ·have hw2:(G.put b .dead).wf:=by rw [Heap.wf_put];exact hw
   refine ⟨.slice G.n 0 (l.length+m.length) 0 1,(G.put b .dead).new (.bytes (l.length+m.length) (enc (l ++ m))),fun {id ph e k a x} ha hx => ?_,⟨G.n,by rw [hlen], ?_,f.n,by rw [Heap.n_new,Heap.n_put];omega⟩,(f.put h3 h4).trans (Fresh.new hw2),fun j hj ho => ?_,by rw [Heap.n_new,Heap.n_put];omega,fun j hj b o n c s he => ?_⟩
   ·rw [op_appT,hx,ha,vSliceN_slice,if_neg hm0]
    show forceN (Nat.add l.length m.length) (fun need=>ifB (Nat.ble need 1073741824) (ifB (Nat.beq 1 1) (ifB (Nat.beq 0 0) (hGet G b fun bl=>bOn id bl (fun _=>no 0) (fun ln mm=>ifB (Nat.beq ln l.length) (forceN (Nat.add mm (Nat.shiftLeft (enc m) (Nat.mul 8 l.length))) fun m'=>hSet id G b .dead fun H=>hNew H (.bytes need m') fun b' H=>k (.slice b' 0 need 0 1) H) (no 0))) (no 0)) (no 0)) (no 0))=_
    rw [forceN_eq,ifB_if,if_pos (by rw [nble];show l.length+m.length≤_;omega),hGet_eq,hg]
    show ifB (Nat.beq l.length l.length) (forceN (Nat.add (enc l) (Nat.shiftLeft (enc m) (Nat.mul 8 l.length))) fun m'=>hSet id G b .dead fun H=>hNew H (.bytes (l.length+m.length) m') fun b' H=>k (.slice b' 0 (l.length+m.length) 0 1) H) (no 0)=_
    rw [ifB_if,if_pos (by simp),forceN_eq,hSet_put hw h4,hNew_new hw2,Heap.n_put]
    rw [show Nat.add (enc l) (Nat.shiftLeft (enc m) (Nat.mul 8 l.length))=enc (l ++ m) from (enc_cat l m).symm]
   ·rw [Heap.get_new hw2,if_pos (by rw [Heap.n_put]),hlen]
   ·rw [Heap.get_new hw2,if_neg (by rw [Heap.n_put];omega),Heap.get_put hw h4,if_neg (ho _ _ _ _ _ rfl)]
   ·cases he;omega
  ·have hld:∀ {id:Nat} {f:Nat→R},loadB id G b 0 l.length f=f (enc l):=fun {id f}=>by
    rcases hg with hg | ⟨rfl,hg⟩
    ·exact loadB_bytes hg (enc_lt l)
    ·rw [loadB_on,hg];rfl
   refine ⟨.slice G.n 0 (l.length+m.length) 0 1,G.new (.bytes (l.length+m.length) (enc (l ++ m))),fun {id ph e k a x} ha hx => ?_,⟨G.n,by rw [hlen], ?_,f.n,by rw [Heap.n_new];omega⟩,f.trans (Fresh.new hw),fun j hj ho => ?_,by rw [Heap.n_new];omega,fun j hj b o n c s he => ?_⟩
   ·rw [op_appT,hx,ha,vSliceN_slice,if_neg hm0]
    show forceN (Nat.add l.length m.length) (fun need=>ifB (Nat.ble need 1073741824) (ifB (Nat.ble need l.length) (no 0) (loadB id G b 0 l.length fun mm=>forceN (Nat.add mm (Nat.shiftLeft (enc m) (Nat.mul 8 l.length))) fun m'=>hNew G (.bytes need m') fun b' H=>k (.slice b' 0 need 0 1) H)) (no 0))=_
    rw [forceN_eq,ifB_if,if_pos (by rw [nble];show l.length+m.length≤_;omega),ifB_if,if_neg (by rw [nble];show ¬ l.length+m.length≤_;omega),hld,forceN_eq,hNew_new hw]
    rw [show Nat.add (enc l) (Nat.shiftLeft (enc m) (Nat.mul 8 l.length))=enc (l ++ m) from (enc_cat l m).symm]
    rfl
   ·rw [Heap.get_new hw,if_pos rfl,hlen]
   ·rw [Heap.get_new hw,if_neg (by omega)]
   ·cases he;omega
theorem GrB.text {H G:Heap} {v:V} {l:List UInt8} (h:GrB H G v l) {id:Nat} {ph:Phi} {e:Env} {k:K} {a:Arg} (ha:pgetA a e=v):evOp (.convB2S a) id ph e G k=k (tv l) G:=by
 rw [op_convB2S,ha]
 rcases h with ⟨rfl,rfl⟩ | ⟨b,c,s,rfl,h2,h3,h4⟩
 ·rfl
 ·rw [vSliceN_slice]
  have hld:∀ {id:Nat} {f:Nat→R},loadB id G b 0 l.length f=f (enc l):=fun {id f}=>by
   rcases h2 with ⟨_,_,hg⟩ | ⟨_,hg | ⟨rfl,hg⟩⟩
   ·exact loadB_bytes hg (enc_lt l)
   ·exact loadB_bytes hg (enc_lt l)
   ·rw [loadB_on,hg];rfl
  rw [hld]
  rfl
theorem GrB.is1 {H G:Heap} {v:V} {l:List UInt8} (h:GrB H G v l) {id:Nat} {k:R}:isOne id v k=k:=by
 rcases h with ⟨rfl,_⟩ | ⟨b,c,s,rfl,_⟩ <;> rfl
end Go.Ev
end
section
namespace Go.Ev
def snapI (i:Nat):Stp:=⟨7,i % 6,0,[]⟩
def snaps (n:Nat):List Stp:=(List.range n).map snapI
theorem snap_may (i:Nat):mayS (snapI i)=true:=by
 have h:∀ j,j<6→mayS ⟨7,j,0,[]⟩=true:=by decide
 exact h _ (Nat.mod_lt _ (by decide))
theorem snaps_may (n:Nat):∀ s ∈ snaps n,mayS s=true:=fun s hs=>by
 obtain ⟨i,_,rfl⟩:=List.mem_map.1 hs
 exact snap_may i
theorem snaps_len (n:Nat):(snaps n).length=n:=by simp [snaps]
theorem snaps_succ (n:Nat):snaps (n+1)=snaps n ++ [snapI n]:=by simp [snaps,List.range_succ]
theorem snap_line (i:Nat):lineOf (snapI i)=[115,110,97,112,32] ++ [UInt8.ofNat (48+i % 6),10]:=by
 have h:∀ j,j<6→lineOf ⟨7,j,0,[]⟩=[115,110,97,112,32] ++ [UInt8.ofNat (48+j),10]:=by decide
 exact h _ (Nat.mod_lt _ (by decide))
def longT (e n:Nat):List UInt8:=List.replicate e 10 ++ (snaps n).flatMap lineOf
theorem longT_succ (e n:Nat):longT e (n+1)=(longT e n ++ [115,110,97,112,32]) ++ [UInt8.ofNat (48+n % 6),10]:=by
 unfold longT
 rw [snaps_succ,List.flatMap_append,List.flatMap_cons,List.flatMap_nil,List.append_nil,snap_line]
 simp only [List.append_assoc]
theorem longT_len (e n:Nat):(longT e n).length=e+n * 7:=by
 induction n with
 | zero=>simp [longT,snaps]
 | succ n ih=>rw [longT_succ,List.length_append,List.length_append,ih];simp;omega
theorem linesP_empties (e:Nat) (s:List UInt8):linesP (List.replicate e 10 ++ s)=List.replicate e [] ++ linesP s:=by
 induction e with
 | zero=>rfl
 | succ e ih=>rw [List.replicate_succ,List.cons_append,linesP,if_pos rfl,ih];rfl
theorem parseGo_empties (num:List UInt8→Nat) (ls:List (List UInt8)):∀ (e a:Nat) (acc:List Stp),parseGo num (List.replicate e [] ++ ls) a acc=parseGo num ls (a+e) acc
 | 0,a,acc=>rfl
 | e+1,a,acc=>by
  rw [List.replicate_succ,List.cons_append,parseGo]
  show parseGo num (List.replicate e [] ++ ls) (a+1) acc=_
  rw [parseGo_empties num ls e (a+1) acc,show a+1+e=a+(e+1) by omega]
theorem parse_many {num:List UInt8→Nat} (N:NumOK num) (rest:List UInt8):∀ (l:List Stp) (a:Nat) (acc:List Stp),(∀ s ∈ l,mayS s=true)→acc.length+l.length≤4096→parseGo num (linesP (l.flatMap lineOf ++ rest)) a acc=parseGo num (linesP rest) (a+l.length) (acc ++ l)
 | [],a,acc,_,_=>by simp
 | s :: l,a,acc,h,hl=>by
  have hs:=h s (List.mem_cons_self ..)
  simp only [List.length_cons] at hl
  rw [List.flatMap_cons,lineOf_body hs,List.append_assoc,List.append_assoc]
  show parseGo num (linesP (bodyOf s ++ 10 :: (l.flatMap lineOf ++ rest))) a acc=_
  rw [linesP_line _ _ (body_ne hs),parseGo_body N hs a acc (by omega),parse_many N rest l (a+1) (acc ++ [s]) (fun x hx=>h x (List.mem_cons_of_mem _ hx)) (by simp;omega),List.append_assoc]
  rw [List.length_cons,show a+1+l.length=a+(l.length+1) by omega]
  rfl
theorem snaps_split (a q:Nat):snaps (a+(q+1))=snaps a ++ snapI a :: (List.range q).map fun i=>snapI (a+(i+1)):=by
 unfold snaps
 rw [List.range_add,List.map_append,List.range_succ_eq_map,List.map_cons,List.map_cons,List.map_map,List.map_map]
 rfl
theorem long_ok {num:List UInt8→Nat} (N:NumOK num) {e n:Nat} (hn:n≤4096):parseGo num (linesP (longT e n)) 0 [] = .ok (snaps n):=by
 unfold longT
 rw [linesP_empties,parseGo_empties,parse_lines N (snaps n) (0+e) [] (snaps_may n) (by rw [snaps_len];simpa using hn)]
 rfl
theorem long_bad {num:List UInt8→Nat} (N:NumOK num) {e n:Nat} (hn:4096<n):parseGo num (linesP (longT e n)) 0 [] = .error (3,e+4096):=by
 unfold longT
 have hs:snaps n=snaps 4096 ++ snapI 4096 :: (List.range (n-4097)).map fun i=>snapI (4096+(i+1)):=by
  have h:=snaps_split 4096 (n-4097)
  rwa [show 4096+(n-4097+1)=n by omega] at h
 rw [hs,linesP_empties,parseGo_empties,List.flatMap_append,parse_many N _ (snaps 4096) (0+e) [] (snaps_may 4096) (by rw [snaps_len];decide),snaps_len,List.flatMap_cons,lineOf_body (snap_may 4096),List.append_assoc]
 generalize ((List.range (n-4097)).map fun i=>snapI (4096+(i+1))).flatMap lineOf=rest
 show parseGo num (linesP (bodyOf (snapI 4096) ++ 10 :: rest)) (0+e+4096) ([] ++ snaps 4096)=_
 obtain ⟨h1,h2⟩:=body_line N (snap_may 4096)
 rw [linesP_line _ _ (body_ne (snap_may 4096)),parseGo,h1]
 simp only [h2]
 rw [if_neg (by simp),List.nil_append,if_pos (snaps_len 4096),Nat.zero_add]
def cut50 (m:Nat):Nat:=if m<9223372036854775808 then min m 50 else 0
def cut42 (n:Nat):Nat:=if n<9223372036854775808 then min n 4200 else 0
theorem mmin {n c:Nat} (hn:n<18446744073709551616) (hc:c<9223372036854775808):mmN false 9223372036854775808 18446744073709551616 n c=if n<9223372036854775808 then min n c else n:=by
 unfold mmN
 rw [if_neg (by decide)]
 by_cases h:n<9223372036854775808
 ·rw [if_pos h];split <;> omega
 ·rw [if_neg h,if_pos (by omega)]
theorem mmax {n:Nat} (hn:n<18446744073709551616):mmN true 9223372036854775808 18446744073709551616 0 n=if n<9223372036854775808 then n else 0:=by
 unfold mmN
 rw [if_pos rfl]
 by_cases h:n<9223372036854775808
 ·rw [if_pos h,if_pos (by omega)]
 ·rw [if_neg h,if_neg (by omega)]
theorem mm42 {n:Nat} (hn:n<18446744073709551616):mmN true 9223372036854775808 18446744073709551616 0 (mmN false 9223372036854775808 18446744073709551616 n 4200)=cut42 n:=by
 rw [mmin hn (by decide)]
 unfold cut42
 by_cases h:n<9223372036854775808
 ·rw [if_pos h,if_pos h,mmax (by omega),if_pos (by omega)]
 ·rw [if_neg h,if_neg h,mmax hn,if_neg h]
theorem mm50 {n:Nat} (hn:n<18446744073709551616):mmN true 9223372036854775808 18446744073709551616 0 (mmN false 9223372036854775808 18446744073709551616 n 50)=cut50 n:=by
 rw [mmin hn (by decide)]
 unfold cut50
 by_cases h:n<9223372036854775808
 ·rw [if_pos h,if_pos h,mmax (by omega),if_pos (by omega)]
 ·rw [if_neg h,if_neg h,mmax hn,if_neg h]
section
variable {t:Nat→Option FnE} {cp:RC→CodeE} {fuel:Nat} {H:Heap} {dec:List UInt8→Nat × Nat} {num:List UInt8→Nat}
theorem long_l0 {G:Heap} {m:Nat} (hm:m<18446744073709551616) {v0:V}:∀ (q i:Nat),i+q=cut50 m → ∀ (ph:Phi) (kx:Nat→KE) (r:Nat) (e:Env),q<r→pget ⟨.i0, .i0, .i0⟩ e=v0→pget ⟨.i0, .i0, .i1⟩ e = .int 3 m→pget ⟨.i0, .i0, .i5⟩ e=tv (List.replicate i 10)→pget ⟨.i0, .i0, .i6⟩ e = .int 3 i →
  ∀ x:R,(∀ e',pget ⟨.i0, .i0, .i0⟩ e'=v0→pget ⟨.i0, .i0, .i1⟩ e' = .int 3 m→pget ⟨.i0, .i0, .i5⟩ e'=tv (List.replicate (cut50 m) 10)→kx 1 e' G=x)→evL c5l0 fuel ph kx r e G=x:=by
 have h50:cut50 m≤50:=by unfold cut50;split <;> omega
 intro q
 induction q with
 | zero=>
  intro i hi ph kx r e hr h0 h1 h5 h6 x hx
  obtain ⟨r,rfl⟩:∃ q,r=q+1:=⟨r-1,by omega⟩
  have hie:i=cut50 m:=by omega
  rw [evL_succ]
  have l1:(evCF (.lt 9223372036854775808 18446744073709551616) i m=true)=(i<m∧m<9223372036854775808):=by rw [cf_lt];apply propext;omega
  have l2:(evCF (.lt 9223372036854775808 18446744073709551616) i 50=true)=(i<50):=by rw [cf_lt];apply propext;omega
  by_cases hc:i<m∧m<9223372036854775808
  ·have hc50:¬ i<50:=by
    unfold cut50 at hie
    rw [if_pos hc.2] at hie
    omega
   simp only [go_sem,↓op_app,reduceCtorEq,Nat.reduceAdd,Nat.reduceSub,Nat.reduceMul,Nat.reduceEqDiff,Nat.reduceLT,Nat.reduceDiv,Nat.reduceMod,Nat.reduceLeDiff,↓reduceIte,c5l0,h1,h6,l1,l2,hc,hc50,and_self]
   refine hx _ ?_ ?_ ?_ <;> simp only [go_sem,↓op_app,reduceCtorEq,Nat.reduceAdd,Nat.reduceSub,Nat.reduceMul,Nat.reduceEqDiff,Nat.reduceLT,Nat.reduceDiv,Nat.reduceMod,Nat.reduceLeDiff,↓reduceIte,h0,h1,h5,hie]
  ·simp only [go_sem,↓op_app,reduceCtorEq,Nat.reduceAdd,Nat.reduceSub,Nat.reduceMul,Nat.reduceEqDiff,Nat.reduceLT,Nat.reduceDiv,Nat.reduceMod,Nat.reduceLeDiff,↓reduceIte,c5l0,h1,h6,l1,l2,hc]
   refine hx _ ?_ ?_ ?_ <;> simp only [go_sem,↓op_app,reduceCtorEq,Nat.reduceAdd,Nat.reduceSub,Nat.reduceMul,Nat.reduceEqDiff,Nat.reduceLT,Nat.reduceDiv,Nat.reduceMod,Nat.reduceLeDiff,↓reduceIte,h0,h1,h5,hie]
 | succ q ih=>
  intro i hi ph kx r e hr h0 h1 h5 h6 x hx
  obtain ⟨r,rfl⟩:∃ q,r=q+1:=⟨r-1,by omega⟩
  have hlt:m<9223372036854775808∧i<m∧i<50:=by
   unfold cut50 at hi
   split at hi <;> omega
  have l1:(evCF (.lt 9223372036854775808 18446744073709551616) i m=true)=True:=by rw [cf_lt];apply eq_true;omega
  have l2:(evCF (.lt 9223372036854775808 18446744073709551616) i 50=true)=True:=by rw [cf_lt];apply eq_true;omega
  have e5:(i+1) % 18446744073709551616=i+1:=by omega
  have e6:(List.replicate i (10:UInt8)).length+1<9223372036854775808:=by rw [List.length_replicate];omega
  have q4:V.str ((List.replicate i (10:UInt8)).length+[(10:UInt8)].length) (enc (List.replicate i 10)+enc [10] * 256 ^ (List.replicate i (10:UInt8)).length)=tv (List.replicate (i+1) 10):=by
   rw [tv_append,List.replicate_succ']
  rw [evL_succ]
  simp only [go_sem,↓op_app,reduceCtorEq,Nat.reduceAdd,Nat.reduceSub,Nat.reduceMul,Nat.reduceEqDiff,Nat.reduceLT,Nat.reduceDiv,Nat.reduceMod,Nat.reduceLeDiff,↓reduceIte,c5l0,h1,h5,h6,l1,l2,e5,vStr_tv,isOne_tv]
  rw [if_pos e6]
  refine ih (i+1) (by omega) ph kx r _ (by omega) ?_ ?_ ?_ ?_ x hx
  ·simp only [go_sem,reduceCtorEq,↓reduceIte,h0]
  ·simp only [go_sem,reduceCtorEq,↓reduceIte,h1]
  ·simp only [go_sem,reduceCtorEq,↓reduceIte]
   exact q4
  ·simp only [go_sem,reduceCtorEq,↓reduceIte]
end
end Go.Ev
end
section
namespace Go.Ev
theorem Gr.keep {H G G':Heap} {v:V} {size n:Nat} {row:List V} (h:Gr H G v size n row) (hn:G.n≤G'.n) (hs:∀ b o l c s,v = .slice b o l c s→b<G.n→G'.get b=G.get b):Gr H G' v size n row:=by
 obtain ⟨h1,h2,h | ⟨b,c,s,g1,g2,g3,g4,g5,g6⟩⟩:=h
 ·exact ⟨h1,h2,Or.inl h⟩
 ·exact ⟨h1,h2,Or.inr ⟨b,c,s,g1,g2,g3,(hs _ _ _ _ _ g1 g6).trans g4,g5,Nat.lt_of_lt_of_le g6 hn⟩⟩
theorem GrB0.keep {H G G':Heap} {v:V} {l:List UInt8} (h:GrB0 H G v l) (hn:G.n≤G'.n) (hs:∀ b o n c s,v = .slice b o n c s→b<G.n→G'.get b=G.get b):GrB0 H G' v l:=by
 obtain ⟨b,h1,h2,h3,h4⟩:=h
 exact ⟨b,h1,(hs _ _ _ _ _ h1 h4).trans h2,h3,Nat.lt_of_lt_of_le h4 hn⟩
theorem GrB0.lt {H G:Heap} {v:V} {l:List UInt8} (h:GrB0 H G v l):∀ b o n c s,v = .slice b o n c s→b<G.n:=fun b o n c s hv=>by
 obtain ⟨b',h1,h2,h3,h4⟩:=h
 rw [h1] at hv
 cases hv
 exact h4
theorem Gr.lt {H G:Heap} {v:V} {size n:Nat} {row:List V} (h:Gr H G v size n row):∀ b o l c s,v = .slice b o l c s→b<G.n:=fun b o l c s hv=>by
 obtain ⟨h1,h2,⟨rfl,_⟩ | ⟨b',c',s',rfl,g2,g3,g4,g5,g6⟩⟩:=h
 ·cases hv
 ·cases hv
  exact g6
def Apart (v w:V):Prop:=∀ b o n c s,v = .slice b o n c s→Off w b
theorem Apart.symm {v w:V} (h:Apart v w):Apart w v:=fun b o n c s hw b' o' n' c' s' hv he=>h b' o' n' c' s' hv b o n c s hw he.symm
section
variable {t:Nat→Option FnE} {cp:RC→CodeE} {fuel:Nat} {H:Heap} {dec:List UInt8→Nat × Nat} {num:List UInt8→Nat}
theorem long_l1 {E N:Nat} (hE:E≤50) (hN:N≤4200) {v1 v5:V}:∀ (q i:Nat) (G:Heap) (vl vb:V),i+q=N→Fresh H G→Gr H G vl 4 i (Stps (snaps i))→GrB0 H G vb (longT E i)→Apart vl vb →
  ∃ G' vl' vb',Fresh H G'∧Gr H G' vl' 4 N (Stps (snaps N))∧GrB0 H G' vb' (longT E N) ∧ ∀ (ph:Phi) (kx:Nat→KE) (r:Nat) (e:Env),q<r→pget ⟨.i0, .i0, .i0⟩ e = .int 3 N→pget ⟨.i0, .i0, .i1⟩ e=v1→pget ⟨.i0, .i0, .i5⟩ e=v5→pget ⟨.i0, .i0, .i7⟩ e=vl→pget ⟨.i0, .i1, .i0⟩ e=vb→pget ⟨.i0, .i1, .i1⟩ e = .int 3 i →
   ∀ x:R,(∀ e',pget ⟨.i0, .i0, .i0⟩ e' = .int 3 N→pget ⟨.i0, .i0, .i1⟩ e'=v1→pget ⟨.i0, .i0, .i5⟩ e'=v5→pget ⟨.i0, .i0, .i7⟩ e'=vl'→pget ⟨.i0, .i1, .i0⟩ e'=vb'→kx 3 e' G'=x)→evL c5l1 fuel ph kx r e G=x:=by
 intro q
 induction q with
 | zero=>
  intro i G vl vb hi f hl hb hap
  obtain rfl:i=N:=by omega
  refine ⟨G,vl,vb,f,hl,hb,fun ph kx r e hr h0 h1 h5 h7 h10 h11 x hx => ?_⟩
  obtain ⟨r,rfl⟩:∃ q,r=q+1:=⟨r-1,by omega⟩
  have e1:nn i:=by unfold nn;omega
  have e2:¬ i<i:=by omega
  rw [evL_succ]
  simp only [go_sem,↓op_app,reduceCtorEq,Nat.reduceAdd,Nat.reduceSub,Nat.reduceMul,Nat.reduceEqDiff,Nat.reduceLT,Nat.reduceDiv,Nat.reduceMod,Nat.reduceLeDiff,↓reduceIte,c5l1,h0,h11,e1,e2]
  refine hx _ ?_ ?_ ?_ ?_ ?_ <;> simp only [go_sem,reduceCtorEq,↓reduceIte,h0,h1,h5,h7,h10]
 | succ q ih=>
  intro i G vl vb hi f hl hb hap
  have hw:=f.wf
  have hlT:=longT_len E i
  generalize hG1:G.new (.cells (snapI i).cells)=G1
  have f1:Fresh G G1:=by rw [← hG1];exact Fresh.new hw
  have g1n:G1.n=G.n+1:=by rw [← hG1,Heap.n_new]
  have g1x:G1.get G.n = .cells (snapI i).cells:=by rw [← hG1,Heap.get_new hw,if_pos rfl]
  obtain ⟨vl1,G2,zL,hl2,f2,o2,n2,off2⟩:=(hl.fresh f1).app (cx:=2) (sx:=0) (f.trans f1) g1x rfl (fun v hv=>by
   simp only [Stp.cells,List.mem_cons,List.not_mem_nil,or_false] at hv
   rcases hv with rfl | rfl | rfl | rfl <;> rfl) (by omega)
  have hS:Stps (snaps i) ++ (snapI i).cells=Stps (snaps (i+1)):=by
   rw [snaps_succ]
   simp only [Stps,List.flatMap_append,List.flatMap_cons,List.flatMap_nil,List.append_nil]
  rw [hS] at hl2
  have hb2:GrB0 H G2 vb (longT E i):=(hb.fresh f1).keep (Nat.le_of_lt n2) fun b o n c s hv hlt=>o2 b hlt (hap.symm _ _ _ _ _ hv)
  obtain ⟨vb1,G3,zS,hb3,f3,o3,n3,off3⟩:=hb2.gr.app (m:=[115,110,97,112,32]) f2 (by simp) (by rw [hlT];simp;omega)
  have hl3:Gr H G3 vl1 4 (i+1) (Stps (snaps (i+1))):=hl2.keep (Nat.le_of_lt n3) fun b o n c s hv hlt=>o3 b hlt fun b' o' n' c' s' hv' he=>by
   subst he
   exact off2 _ ((hb.fresh f1).lt _ _ _ _ _ hv') _ _ _ _ _ hv rfl
  generalize hG4:G3.new (.bytes 2 (48+i % 6+256 * 10))=G4
  have f34:Fresh G3 G4:=by rw [← hG4];exact Fresh.new f3.wf
  have g4n:G4.n=G3.n+1:=by rw [← hG4,Heap.n_new]
  have g4x:G4.get G3.n = .bytes 2 (48+i % 6+256 * 10):=by rw [← hG4,Heap.get_new f3.wf,if_pos rfl]
  have hi6:i % 6<6:=Nat.mod_lt _ (by decide)
  obtain ⟨vb2,G5,zD,hb5,f5,o5,n5,off5⟩:=(hb3.fresh f34).gr.app (m:=[UInt8.ofNat (48+i % 6),10]) (f3.trans f34) (by simp) (by rw [List.length_append,hlT];simp;omega)
  have hl5:Gr H G5 vl1 4 (i+1) (Stps (snaps (i+1))):=(hl3.fresh f34).keep (Nat.le_of_lt n5) fun b o n c s hv hlt=>o5 b hlt fun b' o' n' c' s' hv' he=>by
   subst he
   exact off3 _ (hl2.lt _ _ _ _ _ hv) _ _ _ _ _ hv' rfl
  rw [← longT_succ] at hb5
  have hap':Apart vl1 vb2:=fun b o n c s hv=>off5 b ((hl3.fresh f34).lt _ _ _ _ _ hv)
  obtain ⟨G',vl',vb',f',hl',hb',z'⟩:=ih (i+1) G5 vl1 vb2 (by omega) f5 hl5 hb5 hap'
  refine ⟨G',vl',vb',f',hl',hb',fun ph kx r e hr h0 h1 h5 h7 h10 h11 x hx => ?_⟩
  obtain ⟨r,rfl⟩:∃ q,r=q+1:=⟨r-1,by omega⟩
  have e1:nn i:=by unfold nn;omega
  have e2:i<N:=by omega
  have e3:nn N:=by unfold nn;omega
  have e5:(i+1) % 18446744073709551616=i+1:=by omega
  have e6:∀ {id:Nat} {f:Nat→R},evBF id (.rem 9223372036854775808) i 6 f=f (i % 6):=fun {id f}=>bf_rem (by omega) (by omega) (by omega)
  have e7:i % 6 % 256=i % 6:=by omega
  have e8:(48+i % 6) % 256=48+i % 6:=by omega
  have t1:[V.int 3 7,V.int 3 (i % 6),V.int 3 0,V.str 0 0]=(snapI i).cells:=rfl
  have hG1':G.new (.cells [.int 3 7, .int 3 (i % 6), .int 3 0, .str 0 0])=G1:=hG1
  have w3:=f3.wf
  have zL':∀ {id:Nat} {ph:Phi} {e':Env} {k:K},pgetA (.s ⟨.i0, .i4, .i3⟩) e'=vl→pgetA (.s ⟨.i0, .i4, .i7⟩) e' = .slice G.n 0 1 2 0→evOp (.app false 4 (.s ⟨.i0, .i4, .i3⟩) (.s ⟨.i0, .i4, .i7⟩)) id ph e' G1 k=k vl1 G2:=fun {id ph e' k} p q=>zL p q
  have zS':∀ {id:Nat} {ph:Phi} {e':Env} {k:K},pgetA (.s ⟨.i0, .i5, .i1⟩) e'=vb→evOp (.app true 1 (.s ⟨.i0, .i5, .i1⟩) (.c (.str 5 139324386931))) id ph e' G2 k=k vb1 G3:=fun {id ph e' k} p=>zS p fun f=>rfl
  have zD':∀ {id:Nat} {ph:Phi} {e':Env} {k:K},pgetA (.s ⟨.i0, .i5, .i3⟩) e'=vb1→pgetA (.s ⟨.i0, .i6, .i0⟩) e' = .slice G3.n 0 2 3 0→evOp (.app true 1 (.s ⟨.i0, .i5, .i3⟩) (.s ⟨.i0, .i6, .i0⟩)) id ph e' G4 k=k vb2 G5:=fun {id ph e' k} p q=>zD p fun f=>by
   rw [q,newBytes_slice,loadB_bytes g4x (by omega)]
   have h1:enc [UInt8.ofNat (48+i % 6),10]=48+i % 6+256 * 10:=by
    show (UInt8.ofNat (48+i % 6)).toNat+256 * (10+256 * 0)=_
    rw [toNat_ofNat (by omega)]
   rw [h1]
   rfl
  rw [evL_succ]
  simp only [go_sem,reduceCtorEq,Nat.reduceAdd,Nat.reduceSub,Nat.reduceMul,Nat.reduceEqDiff,Nat.reduceLT,Nat.reduceDiv,Nat.reduceMod,Nat.reduceLeDiff,↓reduceIte,c5l1,h0,h7,h10,h11,e1,e2,e3,e5,e6,e7,e8,hw,hG1',w3,hG4,↓zL',↓zS',↓zD']
  refine z' ph kx r _ (by omega) ?_ ?_ ?_ ?_ ?_ ?_ x hx <;> simp only [go_sem,reduceCtorEq,↓reduceIte,h0,h1,h5]
end
end Go.Ev
end
section
namespace Go.Ev
theorem parseGo_ne0 {num:List UInt8→Nat}:∀ (ls:List (List UInt8)) (a:Nat) (acc:List Stp) (c y:Nat),parseGo num ls a acc = .error (c,y)→c≠0
 | [],a,acc,c,y,h=>by cases h
 | l :: ls,a,acc,c,y,h=>by
  simp only [parseGo] at h
  cases hl:lineP l with
  | none=>rw [hl] at h;exact parseGo_ne0 ls _ _ c y h
  | some F=>
   rw [hl] at h
   simp only [] at h
   split at h
   ·rename_i h1
    cases h
    exact h1
   ·split at h
    ·cases h;decide
    ·exact parseGo_ne0 ls _ _ c y h
end Go.Ev
end
section
namespace Go.Ev
def wideB (b:UInt8):List UInt8:=if b=32 then [32,9,32] else if b=10 then [32,32,10,9] else [b]
def wideW (s:List UInt8):List UInt8:=s.flatMap wideB
def remark:List UInt8:=[32,9,35,32,116,105,99,107]
def remarks:Nat→List UInt8
 | 0 => []
 | k+1=>remarks k ++ (remark ++ [10])
def wideT (k:Nat) (s:List UInt8):List UInt8:=remarks k ++ [32] ++ wideW s
abbrev blanks (l:List UInt8):Prop:=∀ b ∈ l,blankB b=true
theorem fields_blanks:∀ (l cur:List UInt8),blanks l→fieldsGo l cur=fieldsGo [] cur
 | [],cur,_=>rfl
 | b :: l,cur,h=>by
  rw [show fieldsGo (b :: l) cur=if blankB b=true then (if cur=[] then fieldsGo l [] else cur :: fieldsGo l []) else fieldsGo l (cur ++ [b]) from rfl,if_pos (h b (List.mem_cons_self ..)),fields_blanks l [] fun x hx=>h x (List.mem_cons_of_mem _ hx)]
  by_cases hc:cur=[]
  ·rw [if_pos hc,hc]
  ·rw [if_neg hc]
   simp only [fieldsGo,if_neg hc,if_true]
theorem fields_lead:∀ (p l:List UInt8),blanks p→fieldsGo (p ++ l) []=fieldsGo l []
 | [],l,_=>rfl
 | b :: p,l,h=>by
  rw [List.cons_append,fieldsGo,if_pos (h b (List.mem_cons_self ..)),if_pos rfl,fields_lead p l fun x hx=>h x (List.mem_cons_of_mem _ hx)]
theorem fields_wide:∀ (x tail cur:List UInt8),(∀ b ∈ x,b≠10)→blanks tail→fieldsGo (wideW x ++ tail) cur=fieldsGo x cur
 | [],tail,cur,_,h=>fields_blanks tail cur h
 | b :: x,tail,cur,hx,h=>by
  have ih:=fun cur=>fields_wide x tail cur (fun y hy=>hx y (List.mem_cons_of_mem _ hy)) h
  have hb10:=hx b (List.mem_cons_self ..)
  rw [show wideW (b :: x)=wideB b ++ wideW x from rfl,List.append_assoc]
  unfold wideB
  by_cases hb:b=32
  ·rw [if_pos hb]
   have h32:blankB 32=true:=by decide
   have h9:blankB 9=true:=by decide
   subst hb
   show fieldsGo (32 :: 9 :: 32 :: (wideW x ++ tail)) cur=fieldsGo (32 :: x) cur
   simp only [fieldsGo,h32,h9,if_true,ih]
  ·rw [if_neg hb,if_neg hb10]
   show fieldsGo (b :: (wideW x ++ tail)) cur=fieldsGo (b :: x) cur
   simp only [fieldsGo,ih]
def Same2:List (List UInt8)→List (List UInt8)→Prop
 | [],[]=>True
 | x :: xs,y :: ys=>fieldsP x=fieldsP y∧Same2 xs ys
 | _,_=>False
theorem lines_no:∀ (s:List UInt8),∀ x ∈ linesP s,∀ b ∈ x,b≠10
 | [],x,hx,b,hb=>by
  simp [linesP] at hx
  subst hx
  cases hb
 | c :: l,x,hx,b,hb=>by
  rw [linesP] at hx
  by_cases hc:c=10
  ·rw [if_pos hc] at hx
   rcases List.mem_cons.1 hx with rfl | hx
   ·cases hb
   ·exact lines_no l x hx b hb
  ·rw [if_neg hc] at hx
   cases hl:linesP l with
   | nil=>exact absurd hl (linesP_ne l)
   | cons y ys=>
    rw [hl] at hx
    rcases List.mem_cons.1 hx with rfl | hx
    ·rcases List.mem_cons.1 hb with rfl | hb
     ·exact hc
     ·exact lines_no l y (by rw [hl];exact List.mem_cons_self ..) b hb
    ·exact lines_no l x (by rw [hl];exact List.mem_cons_of_mem _ hx) b hb
theorem linesP_pre:∀ (p l:List UInt8),(∀ b ∈ p,b≠10) → ∀ x xs,linesP l=x :: xs→linesP (p ++ l)=(p ++ x) :: xs
 | [],l,_,x,xs,h=>h
 | b :: p,l,hp,x,xs,h=>by
  rw [List.cons_append,linesP,if_neg (hp b (List.mem_cons_self ..)),linesP_pre p l (fun y hy=>hp y (List.mem_cons_of_mem _ hy)) x xs h]
  rfl
theorem lines_wide:∀ (t p:List UInt8),(∀ b ∈ p,b≠10) → ∃ x xs tail ys,linesP t=x :: xs∧linesP (p ++ wideW t)=(p ++ (wideW x ++ tail)) :: ys∧blanks tail∧Same2 xs ys
 | [],p,hp=>⟨[],[],[],[],rfl,by
   rw [show wideW []=[] from rfl,List.append_nil,List.append_nil,List.append_nil,linesP_last p hp],⟨fun b hb=>absurd hb (List.not_mem_nil),trivial⟩⟩
 | b :: l,p,hp=>by
  by_cases hb:b=10
  ·obtain ⟨x,xs,tail,ys,h1,h2,h3,h4⟩:=lines_wide l [9] (by decide)
   refine ⟨[],linesP l,[32,32],linesP ([9] ++ wideW l), ?_, ?_,by decide, ?_⟩
   ·rw [linesP,if_pos hb]
   ·rw [show wideW (b :: l)=wideB b ++ wideW l from rfl]
    unfold wideB
    rw [if_neg (by rw [hb];decide),if_pos hb]
    have h5:=linesP_line (p ++ [32,32]) (9 :: wideW l) (fun y hy=>by
     rcases List.mem_append.1 hy with hy | hy
     ·exact hp y hy
     ·have:∀ z ∈ ([32,32]:List UInt8),z≠10:=by decide
      exact this y hy)
    rw [show p ++ ([32,32,10,9] ++ wideW l)=(p ++ [32,32]) ++ 10 :: (9 :: wideW l) by simp,h5]
    rfl
   ·rw [h1,h2]
    refine ⟨?_,h4⟩
    have hno:=lines_no l x (by rw [h1];exact List.mem_cons_self ..)
    show fieldsGo x []=fieldsGo ([9] ++ (wideW x ++ tail)) []
    rw [fields_lead [9] _ (by decide),fields_wide x tail [] hno h3]
  ·have hW:∀ y ∈ wideB b,y≠10:=by
    unfold wideB
    by_cases h32:b=32
    ·rw [if_pos h32];decide
    ·rw [if_neg h32,if_neg hb]
     intro y hy
     simp only [List.mem_cons,List.not_mem_nil,or_false] at hy
     rw [hy];exact hb
   obtain ⟨x,xs,tail,ys,h1,h2,h3,h4⟩:=lines_wide l (p ++ wideB b) (fun y hy=>by
    rcases List.mem_append.1 hy with hy | hy
    ·exact hp y hy
    ·exact hW y hy)
   refine ⟨b :: x,xs,tail,ys, ?_, ?_,h3,h4⟩
   ·rw [linesP,if_neg hb,h1]
   ·rw [show wideW (b :: l)=wideB b ++ wideW l from rfl,← List.append_assoc,h2,show wideW (b :: x)=wideB b ++ wideW x from rfl]
    simp only [List.append_assoc]
def shiftE (k:Nat):Except (Nat × Nat) (List Stp)→Except (Nat × Nat) (List Stp)
 | .ok l => .ok l
 | .error e => .error (e.1,e.2+k)
theorem parseGo_two {num:List UInt8→Nat} {k:Nat}:∀ (xs ys:List (List UInt8)) (a:Nat) (acc:List Stp),Same2 xs ys→parseGo num ys (a+k) acc=shiftE k (parseGo num xs a acc)
 | [],[],a,acc,_=>rfl
 | x :: xs,y :: ys,a,acc,h=>by
  have hl:lineP y=lineP x:=by unfold lineP;rw [h.1]
  have ih:=fun acc=>parseGo_two (num:=num) (k:=k) xs ys (a+1) acc h.2
  rw [parseGo,parseGo,hl]
  cases lineP x with
  | none=>
   simp only []
   rw [← ih,show a+1+k=a+k+1 by omega]
  | some F=>
   simp only []
   by_cases h1:(stepP num F).2≠0
   ·rw [if_pos h1,if_pos h1];rfl
   ·rw [if_neg h1,if_neg h1]
    by_cases h2:acc.length=4096
    ·rw [if_pos h2,if_pos h2];rfl
    ·rw [if_neg h2,if_neg h2,← ih,show a+1+k=a+k+1 by omega]
theorem remarks_succ:∀ k,remarks (k+1)=remark ++ 10 :: remarks k
 | 0=>rfl
 | k+1=>by
  show remarks (k+1) ++ (remark ++ [10])=remark ++ 10 :: (remarks k ++ (remark ++ [10]))
  rw [remarks_succ k]
  simp only [List.append_assoc,List.cons_append]
theorem parse_remarks {num:List UInt8→Nat} (s:List UInt8):∀ (k a:Nat) (acc:List Stp),parseGo num (linesP (remarks k ++ s)) a acc=parseGo num (linesP s) (a+k) acc
 | 0,a,acc=>rfl
 | k+1,a,acc=>by
  rw [remarks_succ,List.append_assoc,List.cons_append,linesP_line remark _ (by decide),parseGo,show lineP remark=none by decide]
  simp only []
  rw [parse_remarks s k (a+1) acc,show a+1+k=a+(k+1) by omega]
theorem parse_wide {num:List UInt8→Nat} (k:Nat) (s:List UInt8):parseGo num (linesP (wideT k s)) 0 []=shiftE k (parseGo num (linesP s) 0 []):=by
 unfold wideT
 rw [List.append_assoc,parse_remarks,Nat.zero_add]
 obtain ⟨x,xs,tail,ys,h1,h2,h3,h4⟩:=lines_wide s [32] (by decide)
 rw [h2,h1]
 have hno:=lines_no s x (by rw [h1];exact List.mem_cons_self ..)
 have hs:Same2 (x :: xs) (([32] ++ (wideW x ++ tail)) :: ys):=by
  refine ⟨?_,h4⟩
  show fieldsGo x []=fieldsGo ([32] ++ (wideW x ++ tail)) []
  rw [fields_lead [32] _ (by decide),fields_wide x tail [] hno h3]
 have h5:=parseGo_two (num:=num) (k:=k) _ _ 0 [] hs
 rw [Nat.zero_add] at h5
 exact h5
theorem wideW_len:∀ s:List UInt8,(wideW s).length≤4 * s.length
 | []=>by simp [wideW]
 | b :: s=>by
  have h:=wideW_len s
  rw [show wideW (b :: s)=wideB b ++ wideW s from rfl,List.length_append,List.length_cons]
  have:(wideB b).length≤4:=by
   unfold wideB
   by_cases h1:b=32
   ·rw [if_pos h1];decide
   ·rw [if_neg h1]
    by_cases h2:b=10
    ·rw [if_pos h2];decide
    ·rw [if_neg h2];simp
  omega
theorem remarks_len:∀ k,(remarks k).length=9 * k
 | 0=>rfl
 | k+1=>by
  rw [remarks,List.length_append,remarks_len k,List.length_append]
  simp [remark]
  omega
end Go.Ev
end
section
namespace Go.Ev
theorem wideW_succ {s:List UInt8} {i:Nat} {b:UInt8} (h:s[i]? = some b):wideW (s.take (i+1))=wideW (s.take i) ++ wideB b:=by
 obtain ⟨h1,h2⟩:=List.getElem?_eq_some_iff.1 h
 rw [List.take_succ_eq_append_getElem h1,h2]
 unfold wideW
 rw [List.flatMap_append]
 simp
section
variable {t:Nat→Option FnE} {cp:RC→CodeE} {fuel:Nat} {H:Heap} {dec:List UInt8→Nat × Nat} {num:List UInt8→Nat}
theorem blank_l0 {k:Nat} (hk:k<20) {v0:V}:∀ (q i:Nat) (G:Heap) (vb:V),i+q=k→Fresh H G→GrB H G vb (remarks i) →
  ∃ G' vb',Fresh H G'∧GrB H G' vb' (remarks k) ∧ ∀ (ph:Phi) (kx:Nat→KE) (r:Nat) (e:Env),q<r→pget ⟨.i0, .i0, .i0⟩ e=v0→pget ⟨.i0, .i0, .i5⟩ e=vb→pget ⟨.i0, .i0, .i6⟩ e = .int 3 k→pget ⟨.i0, .i0, .i7⟩ e = .int 3 i →
   ∀ x:R,(∀ e',pget ⟨.i0, .i0, .i0⟩ e'=v0→pget ⟨.i0, .i0, .i5⟩ e'=vb'→pget ⟨.i0, .i0, .i6⟩ e' = .int 3 k→kx 1 e' G'=x)→evL c6l0 fuel ph kx r e G=x:=by
 intro q
 induction q with
 | zero=>
  intro i G vb hi f hb
  obtain rfl:i=k:=by omega
  refine ⟨G,vb,f,hb,fun ph kx r e hr h0 h5 h6 h7 x hx => ?_⟩
  obtain ⟨r,rfl⟩:∃ q,r=q+1:=⟨r-1,by omega⟩
  have e1:nn i:=by unfold nn;omega
  have e2:¬ i<i:=by omega
  rw [evL_succ]
  simp only [go_sem,reduceCtorEq,Nat.reduceAdd,Nat.reduceSub,Nat.reduceMul,Nat.reduceEqDiff,Nat.reduceLT,Nat.reduceDiv,Nat.reduceMod,Nat.reduceLeDiff,↓reduceIte,c6l0,h6,h7,e1,e2]
  refine hx _ ?_ ?_ ?_ <;> simp only [go_sem,reduceCtorEq,↓reduceIte,h0,h5,h6]
 | succ q ih=>
  intro i G vb hi f hb
  have hl:=remarks_len i
  obtain ⟨vb1,G1,zS,hb1,f1,_,_,_⟩:=hb.app (m:=remark ++ [10]) f (by simp) (by rw [hl];simp [remark];omega)
  have hb1':GrB0 H G1 vb1 (remarks (i+1)):=hb1
  obtain ⟨G',vb',f',hb',z'⟩:=ih (i+1) G1 vb1 (by omega) f1 hb1'.gr
  refine ⟨G',vb',f',hb',fun ph kx r e hr h0 h5 h6 h7 x hx => ?_⟩
  obtain ⟨r,rfl⟩:∃ q,r=q+1:=⟨r-1,by omega⟩
  have e1:nn i:=by unfold nn;omega
  have e2:nn k:=by unfold nn;omega
  have e3:i<k:=by omega
  have e5:(i+1) % 18446744073709551616=i+1:=by omega
  have zS':∀ {id:Nat} {ph:Phi} {e':Env} {k:K},pgetA (.s ⟨.i0, .i3, .i5⟩) e'=vb→evOp (.app true 1 (.s ⟨.i0, .i3, .i5⟩) (.c (.str 9 192205585269324450080))) id ph e' G k=k vb1 G1:=fun {id ph e' k} p=>zS p fun f=>rfl
  rw [evL_succ]
  simp only [go_sem,reduceCtorEq,Nat.reduceAdd,Nat.reduceSub,Nat.reduceMul,Nat.reduceEqDiff,Nat.reduceLT,Nat.reduceDiv,Nat.reduceMod,Nat.reduceLeDiff,↓reduceIte,c6l0,h5,h6,h7,e1,e2,e3,e5,↓zS']
  refine z' ph kx r _ (by omega) ?_ ?_ ?_ ?_ x hx <;> simp only [go_sem,reduceCtorEq,↓reduceIte,h0,h6]
theorem blank_l1 {k:Nat} {P s:List UInt8} (hP:P.length≤1000) (hs:s.length≤3000):∀ (q i:Nat) (G:Heap) (vb:V),i+q=s.length→Fresh H G→GrB0 H G vb (P ++ wideW (s.take i)) →
  ∃ G' vb',Fresh H G'∧GrB0 H G' vb' (P ++ wideW s) ∧ ∀ (ph:Phi) (kx:Nat→KE) (r:Nat) (e:Env),q<r→pget ⟨.i0, .i0, .i0⟩ e=tv s→pget ⟨.i0, .i0, .i5⟩ e=vb→pget ⟨.i0, .i0, .i6⟩ e = .int 3 k→pget ⟨.i0, .i1, .i0⟩ e = .int 3 i →
   ∀ x:R,(∀ e',pget ⟨.i0, .i0, .i0⟩ e'=tv s→pget ⟨.i0, .i0, .i5⟩ e'=vb'→pget ⟨.i0, .i0, .i6⟩ e' = .int 3 k→kx 3 e' G'=x)→evL c6l1 fuel ph kx r e G=x:=by
 intro q
 induction q with
 | zero=>
  intro i G vb hi f hb
  obtain rfl:i=s.length:=by omega
  rw [List.take_length] at hb
  refine ⟨G,vb,f,hb,fun ph kx r e hr h0 h5 h6 h10 x hx => ?_⟩
  obtain ⟨r,rfl⟩:∃ q,r=q+1:=⟨r-1,by omega⟩
  have e1:nn s.length:=by unfold nn;omega
  have e2:¬ s.length<s.length:=by omega
  have e3:s.length<9223372036854775808:=by omega
  rw [evL_succ]
  simp only [go_sem,reduceCtorEq,Nat.reduceAdd,Nat.reduceSub,Nat.reduceMul,Nat.reduceEqDiff,Nat.reduceLT,Nat.reduceDiv,Nat.reduceMod,Nat.reduceLeDiff,↓reduceIte,c6l1,h0,h10,vStr_tv,e1,e2,e3]
  refine hx _ ?_ ?_ ?_ <;> simp only [go_sem,reduceCtorEq,↓reduceIte,h0,h5,h6]
 | succ q ih=>
  intro i G vb hi f hb
  have hlt:i<s.length:=by omega
  have hg:s[i]? = some s[i]:=List.getElem?_eq_getElem hlt
  have hE:=enc_byte hg
  have hsucc:=wideW_succ hg
  have hwl:=wideW_len (s.take i)
  rw [List.length_take] at hwl
  generalize s[i]=b at hE hsucc
  have e1:nn i:=by unfold nn;omega
  have e2:nn s.length:=by unfold nn;omega
  have e3:s.length<9223372036854775808:=by omega
  have e4:i<9223372036854775808:=by omega
  have e5:(i+1) % 18446744073709551616=i+1:=by omega
  have hbt:=b.toNat_lt
  by_cases h32:b.toNat=32
  ·have hb32:b=32:=UInt8.toNat_inj.1 h32
   have hW:wideB b=[32,9,32]:=by unfold wideB;rw [if_pos hb32]
   obtain ⟨vb1,G1,zS,hb1,f1,_,_,_⟩:=hb.gr.app (m:=[32,9,32]) f (by simp) (by rw [List.length_append];simp;omega)
   rw [List.append_assoc,← hW,← hsucc] at hb1
   obtain ⟨G',vb',f',hb',z'⟩:=ih (i+1) G1 vb1 (by omega) f1 hb1
   refine ⟨G',vb',f',hb',fun ph kx r e hr h0 h5 h6 h10 x hx => ?_⟩
   obtain ⟨r,rfl⟩:∃ q,r=q+1:=⟨r-1,by omega⟩
   have q1:(b.toNat=32)=True:=eq_true h32
   have zS':∀ {id:Nat} {ph:Phi} {e':Env} {k:K},pgetA (.s ⟨.i0, .i6, .i3⟩) e'=vb→evOp (.app true 1 (.s ⟨.i0, .i6, .i3⟩) (.c (.str 3 2099488))) id ph e' G k=k vb1 G1:=fun {id ph e' k} p=>zS p fun f=>rfl
   rw [evL_succ]
   simp only [go_sem,reduceCtorEq,Nat.reduceAdd,Nat.reduceSub,Nat.reduceMul,Nat.reduceEqDiff,Nat.reduceLT,Nat.reduceDiv,Nat.reduceMod,Nat.reduceLeDiff,↓reduceIte,c6l1,h0,h5,h10,vStr_tv,e1,e2,e3,e4,e5,hlt,hE,q1,↓zS']
   refine z' ph kx r _ (by omega) ?_ ?_ ?_ ?_ x hx <;> simp only [go_sem,reduceCtorEq,↓reduceIte,h0,h6]
  ·have hb32:¬ b=32:=fun h=>h32 (by rw [h];rfl)
   have q1:(b.toNat=32)=False:=eq_false h32
   by_cases h10':b.toNat=10
   ·have hb10:b=10:=UInt8.toNat_inj.1 h10'
    have hW:wideB b=[32,32,10,9]:=by unfold wideB;rw [if_neg hb32,if_pos hb10]
    obtain ⟨vb1,G1,zS,hb1,f1,_,_,_⟩:=hb.gr.app (m:=[32,32,10,9]) f (by simp) (by rw [List.length_append];simp;omega)
    rw [List.append_assoc,← hW,← hsucc] at hb1
    obtain ⟨G',vb',f',hb',z'⟩:=ih (i+1) G1 vb1 (by omega) f1 hb1
    refine ⟨G',vb',f',hb',fun ph kx r e hr h0 h5 h6 h10 x hx => ?_⟩
    obtain ⟨r,rfl⟩:∃ q,r=q+1:=⟨r-1,by omega⟩
    have q2:(b.toNat=10)=True:=eq_true h10'
    have zS':∀ {id:Nat} {ph:Phi} {e':Env} {k:K},pgetA (.s ⟨.i0, .i6, .i7⟩) e'=vb→evOp (.app true 1 (.s ⟨.i0, .i6, .i7⟩) (.c (.str 4 151658528))) id ph e' G k=k vb1 G1:=fun {id ph e' k} p=>zS p fun f=>rfl
    rw [evL_succ]
    simp only [go_sem,reduceCtorEq,Nat.reduceAdd,Nat.reduceSub,Nat.reduceMul,Nat.reduceEqDiff,Nat.reduceLT,Nat.reduceDiv,Nat.reduceMod,Nat.reduceLeDiff,↓reduceIte,c6l1,h0,h5,h10,vStr_tv,e1,e2,e3,e4,e5,hlt,hE,q1,q2,↓zS']
    refine z' ph kx r _ (by omega) ?_ ?_ ?_ ?_ x hx <;> simp only [go_sem,reduceCtorEq,↓reduceIte,h0,h6]
   ·have hb10:¬ b=10:=fun h=>h10' (by rw [h];rfl)
    have hW:wideB b=[b]:=by unfold wideB;rw [if_neg hb32,if_neg hb10]
    have hw:=f.wf
    generalize hGn:G.new (.bytes 1 b.toNat)=Gn
    have fn:Fresh G Gn:=by rw [← hGn];exact Fresh.new hw
    have gnx:Gn.get G.n = .bytes 1 b.toNat:=by rw [← hGn,Heap.get_new hw,if_pos rfl]
    obtain ⟨vb1,G1,zS,hb1,f1,_,_,_⟩:=(hb.fresh fn).gr.app (m:=[b]) (f.trans fn) (by simp) (by rw [List.length_append];simp;omega)
    rw [List.append_assoc,← hW,← hsucc] at hb1
    obtain ⟨G',vb',f',hb',z'⟩:=ih (i+1) G1 vb1 (by omega) f1 hb1
    refine ⟨G',vb',f',hb',fun ph kx r e hr h0 h5 h6 h10 x hx => ?_⟩
    obtain ⟨r,rfl⟩:∃ q,r=q+1:=⟨r-1,by omega⟩
    have q2:(b.toNat=10)=False:=eq_false h10'
    have zS':∀ {id:Nat} {ph:Phi} {e':Env} {k:K},pgetA (.s ⟨.i0, .i5, .i3⟩) e'=vb→pgetA (.s ⟨.i0, .i5, .i7⟩) e' = .slice G.n 0 1 2 0→evOp (.app true 1 (.s ⟨.i0, .i5, .i3⟩) (.s ⟨.i0, .i5, .i7⟩)) id ph e' Gn k=k vb1 G1:=fun {id ph e' k} p q=>zS p fun f=>by
     rw [q,newBytes_slice,loadB_bytes gnx (by simpa using hbt)]
     show f 1 b.toNat=f 1 (b.toNat+256 * 0)
     rw [Nat.mul_zero,Nat.add_zero]
    rw [evL_succ]
    simp only [go_sem,reduceCtorEq,Nat.reduceAdd,Nat.reduceSub,Nat.reduceMul,Nat.reduceEqDiff,Nat.reduceLT,Nat.reduceDiv,Nat.reduceMod,Nat.reduceLeDiff,↓reduceIte,c6l1,h0,h5,h10,vStr_tv,e1,e2,e3,e4,e5,hlt,hE,q1,q2,hw,hGn,↓zS']
    refine z' ph kx r _ (by omega) ?_ ?_ ?_ ?_ x hx <;> simp only [go_sem,reduceCtorEq,↓reduceIte,h0,h6]
end
end Go.Ev
end
section
namespace Go.Ev
theorem parseGo_at {num:List UInt8→Nat}:∀ (ls:List (List UInt8)) (a:Nat) (acc:List Stp) (c y:Nat),parseGo num ls a acc = .error (c,y)→y<a+ls.length
 | [],a,acc,c,y,h=>by cases h
 | l :: ls,a,acc,c,y,h=>by
  simp only [parseGo] at h
  rw [List.length_cons]
  cases hl:lineP l with
  | none=>
   rw [hl] at h
   have:=parseGo_at ls _ _ c y h
   omega
  | some F=>
   rw [hl] at h
   simp only [] at h
   split at h
   ·cases h;omega
   ·split at h
    ·cases h;omega
    ·have:=parseGo_at ls _ _ c y h
     omega
section
variable {t:Nat→Option FnE} {cp:RC→CodeE} {fuel:Nat} {H:Heap} {dec:List UInt8→Nat × Nat} {num:List UInt8→Nat}
set_option maxHeartbeats 1000000 in
set_option maxRecDepth 4000 in
theorem blank_law (hA:t 27=some (.nat nAs)) (hI:t 30=some (.nat nIs)) (T:TCode t) (S:SNat t dec num) (C:CPs cp) (hwk:t 10=some (.nat nWorks)) (hw:H.wf) (hfu:1000001<fuel) {s:List UInt8} (hs:s.length<9223372036854775808) {n:Nat} (hn:n<256) :
  ∃ G,Fresh H G ∧ ∀ (d:Nat) (k:K),callP (evP cp t fuel (d+8)) (.func 12 []) [tv s, .int 4 n] H k=k (.bool true) G:=by
 have d2:nn s.length:=hs
 have d3:min s.length 3000<9223372036854775808:=by omega
 have d4:min s.length 3000≤s.length:=by omega
 have eS:V.str (min s.length 3000-0) (enc s >>> 0 % 256 ^ (min s.length 3000-0))=tv (s.take (min s.length 3000)):=by
  show V.str (min s.length 3000-0) (enc s >>> (8 * 0) % 256 ^ (min s.length 3000-0))=_
  rw [str_sl (Nat.zero_le _) d4,List.drop_zero,Nat.sub_zero]
 have hs2:(s.take (min s.length 3000)).length≤3000:=by rw [List.length_take];omega
 generalize s.take (min s.length 3000)=u at eS hs2
 have hk:n % 20<20:=Nat.mod_lt _ (by decide)
 have rm:∀ {id:Nat} {f:Nat→R},evBF id (.rem 256) n 20 f=f (n % 20):=fun {id f}=>bf_rem (by omega) (by omega) (by omega)
 have rk:n % 20 % 18446744073709551616=n % 20:=by omega
 generalize n % 20=q at hk rm rk
 generalize hG1:H.new (.cells [])=G1
 have f1:Fresh H G1:=by rw [← hG1];exact Fresh.new hw
 have g1n:G1.n=H.n+1:=by rw [← hG1,Heap.n_new]
 have g1b:G1.get H.n = .cells []:=by rw [← hG1,Heap.get_new hw,if_pos rfl]
 have hb1:GrB H G1 (.slice H.n 0 0 1 0) (remarks 0):=Or.inr ⟨H.n,1,0,rfl,Or.inr ⟨rfl,Or.inr ⟨rfl,g1b⟩⟩,Nat.le_refl _,by omega⟩
 obtain ⟨G2,vb2,f2,hb2,z2⟩:=blank_l0 (H:=H) (fuel:=fuel) (v0:=tv u) hk q 0 G1 _ (by omega) f1 hb1
 have hrl:=remarks_len q
 have hw2:=f2.wf
 generalize hG3:G2.new (.bytes 1 32)=G3
 have f23:Fresh G2 G3:=by rw [← hG3];exact Fresh.new hw2
 have g3x:G3.get G2.n = .bytes 1 32:=by rw [← hG3,Heap.get_new hw2,if_pos rfl]
 obtain ⟨vb4,G4,zA,hb4,f4,_,_,_⟩:=(hb2.fresh f23).app (m:=[32]) (f2.trans f23) (by simp) (by rw [hrl];simp;omega)
 have zA':∀ {id:Nat} {ph:Phi} {e':Env} {k:K},pgetA (.s ⟨.i0, .i3, .i7⟩) e'=vb2→pgetA (.s ⟨.i0, .i4, .i0⟩) e' = .slice G2.n 0 1 2 0→evOp (.app true 1 (.s ⟨.i0, .i3, .i7⟩) (.s ⟨.i0, .i4, .i0⟩)) id ph e' G3 k=k vb4 G4:=fun {id ph e' k} p q=>zA p fun f=>by
  rw [q,newBytes_slice,loadB_bytes g3x (by decide)]
  rfl
 have hPl:(remarks q ++ [32]).length≤1000:=by rw [List.length_append,hrl];simp;omega
 obtain ⟨G5,vb5,f5,hb5,z5⟩:=blank_l1 (H:=H) (fuel:=fuel) (k:=q) (s:=u) hPl hs2 u.length 0 G4 vb4 (by omega) f4 (by rw [List.take_zero,show wideW []=[] from rfl,List.append_nil];exact hb4)
 have hwT:remarks q ++ [32] ++ wideW u=wideT q u:=rfl
 rw [hwT] at hb5
 have hwl:=wideW_len u
 have hTl:(wideT q u).length<999990:=by
  rw [← hwT,List.length_append]
  omega
 have hpw:=parse_wide (num:=num) q u
 have pre:∀ (d:Nat) (k:K) (x:R),(∀ (e':Env) (kn:KE) (kx:Nat→KE),(∀ e'' H'',kx 0 e'' H''=retF [.tmp ⟨.i0, .i0, .i4⟩] k e'' H'')→pget ⟨.i0, .i0, .i0⟩ e'=tv u→pget ⟨.i0, .i0, .i5⟩ e'=vb5→pget ⟨.i0, .i0, .i6⟩ e' = .int 3 q→evC c6r7 fuel (evP cp t fuel (d+7)) e' G5 kn kx=x)→callP (evP cp t fuel (d+8)) (.func 12 []) [tv s, .int 4 n] H k=x:=fun d k x hx=>by
  rw [call_entry T.k6 rfl rfl]
  simp only [go_sem,reduceCtorEq,Nat.reduceAdd,Nat.reduceSub,Nat.reduceMul,Nat.reduceEqDiff,Nat.reduceLT,Nat.reduceDiv,Nat.reduceMod,Nat.reduceLeDiff,↓reduceIte,c6,c6r1,vStr_tv,hs,d2,d3,d4,eS]
  simp only [go_sem,reduceCtorEq,Nat.reduceAdd,Nat.reduceSub,Nat.reduceMul,Nat.reduceEqDiff,Nat.reduceLT,Nat.reduceDiv,Nat.reduceMod,Nat.reduceLeDiff,↓reduceIte,c6r2,c6r3,c6r4,hw,hG1,rm,rk]
  refine z2 _ _ fuel _ (by omega) ?_ ?_ ?_ ?_ x fun e1 p0 p5 p6 => ?_
  ·simp only [go_sem,reduceCtorEq,↓reduceIte]
  ·simp only [go_sem,reduceCtorEq,↓reduceIte]
  ·simp only [go_sem,reduceCtorEq,↓reduceIte]
  ·simp only [go_sem,reduceCtorEq,↓reduceIte]
  simp only [go_sem,reduceCtorEq,Nat.reduceAdd,Nat.reduceSub,Nat.reduceMul,Nat.reduceEqDiff,Nat.reduceLT,Nat.reduceDiv,Nat.reduceMod,Nat.reduceLeDiff,↓reduceIte,c6r5,c6r6,p5,hw2,hG3,↓zA']
  refine z5 _ _ fuel _ (by omega) ?_ ?_ ?_ ?_ x fun e2 y0 y5 y6 => ?_
  ·simp only [go_sem,↓op_app,reduceCtorEq,Nat.reduceAdd,Nat.reduceSub,Nat.reduceMul,Nat.reduceEqDiff,Nat.reduceLT,Nat.reduceDiv,Nat.reduceMod,Nat.reduceLeDiff,↓reduceIte,p0]
  ·simp only [go_sem,reduceCtorEq,↓reduceIte]
  ·simp only [go_sem,↓op_app,reduceCtorEq,Nat.reduceAdd,Nat.reduceSub,Nat.reduceMul,Nat.reduceEqDiff,Nat.reduceLT,Nat.reduceDiv,Nat.reduceMod,Nat.reduceLeDiff,↓reduceIte,p6]
  ·simp only [go_sem,reduceCtorEq,↓reduceIte]
  simp only [go_sem,reduceCtorEq,Nat.reduceAdd,Nat.reduceSub,Nat.reduceMul,Nat.reduceEqDiff,Nat.reduceLT,Nat.reduceDiv,Nat.reduceMod,Nat.reduceLeDiff,↓reduceIte]
  exact hx e2 _ _ (fun _ _=>rfl) y0 y5 y6
 have hul:u.length<999990:=by omega
 cases hpg:parseGo num (linesP u) 0 [] with
 | ok out=>
  rw [hpg] at hpw
  have hpw':parseGo num (linesP (wideT q u)) 0 [] = .ok out:=hpw
  obtain ⟨G6,v6,f6,gv6,z6⟩:=parse_ok (cp:=cp) (fuel:=fuel) T S C f5.wf hfu hul hpg
  obtain ⟨G7,v7,f7,gv7,z7⟩:=parse_ok (cp:=cp) (fuel:=fuel) T S C f6.wf hfu hTl hpw'
  have hlen:=parseGo_len num _ _ _ _ (by simp) hpg
  have zT:∀ {id:Nat} {ph:Phi} {e':Env} {k:K},pgetA (.s ⟨.i0, .i7, .i7⟩) e'=vb5→evOp (.convB2S (.s ⟨.i0, .i7, .i7⟩)) id ph e' G6 k=k (tv (wideT q u)) G6:=fun {id ph e' k} p=>(hb5.fresh f6).gr.text p
  have z8:=fun {d:Nat} {k:K}=>alike_call (cp:=cp) (fuel:=fuel) T f7.wf (gv6.stAt.fresh f7) gv7.stAt (by omega) (by omega) hfu d k
  rw [decide_eq_true rfl] at z8
  have z9:=fun {d:Nat} {k:K}=>works_call (cp:=cp) (fuel:=fuel) (d:=d) (k:=k) (G:=G7) hwk
  refine ⟨G7,f5.trans (f6.trans f7),fun d k => ?_⟩
  have z6':=fun {k:K}=>z6 (d+1) k
  have z7':=fun {k:K}=>z7 (d+1) k
  refine pre d k _ fun e' kn kx hkx y0 y5 y6 => ?_
  simp only [go_sem,reduceCtorEq,Nat.reduceAdd,Nat.reduceSub,Nat.reduceMul,Nat.reduceEqDiff,Nat.reduceLT,Nat.reduceDiv,Nat.reduceMod,Nat.reduceLeDiff,↓reduceIte,c6r7,y0,z6']
  simp only [go_sem,reduceCtorEq,Nat.reduceAdd,Nat.reduceSub,Nat.reduceMul,Nat.reduceEqDiff,Nat.reduceLT,Nat.reduceDiv,Nat.reduceMod,Nat.reduceLeDiff,↓reduceIte,c6r8,y5,↓zT,z7']
  simp only [go_sem,reduceCtorEq,Nat.reduceAdd,Nat.reduceSub,Nat.reduceMul,Nat.reduceEqDiff,Nat.reduceLT,Nat.reduceDiv,Nat.reduceMod,Nat.reduceLeDiff,↓reduceIte,c6r9,nilly_nili,z8,z9]
  rw [hkx]
  simp only [go_sem,↓op_app,reduceCtorEq,Nat.reduceAdd,Nat.reduceSub,Nat.reduceMul,Nat.reduceEqDiff,Nat.reduceLT,Nat.reduceDiv,Nat.reduceMod,Nat.reduceLeDiff,↓reduceIte]
 | error ca=>
  obtain ⟨c,y⟩:=ca
  rw [hpg] at hpw
  have hpw':parseGo num (linesP (wideT q u)) 0 [] = .error (c,y+q):=hpw
  have hc:=parseGo_ne0 _ _ _ _ _ hpg
  have hy:=parseGo_at _ _ _ _ _ hpg
  have hyl:=(lines_len u).1
  obtain ⟨G6,q6,f6,a1,a2,g6,z6⟩:=parse_bad (cp:=cp) (fuel:=fuel) hA T S C f5.wf hfu hul hpg
  obtain ⟨G7,q7,f7,b1,b2,g7,z7⟩:=parse_bad (cp:=cp) (fuel:=fuel) hA T S C f6.wf hfu hTl hpw'
  have g76:G7.get q6 = .cells [.int 3 c, .int 3 y]:=(f7.same q6 a2).trans g6
  have zT:∀ {id:Nat} {ph:Phi} {e':Env} {k:K},pgetA (.s ⟨.i0, .i7, .i7⟩) e'=vb5→evOp (.convB2S (.s ⟨.i0, .i7, .i7⟩)) id ph e' G6 k=k (tv (wideT q u)) G6:=fun {id ph e' k} p=>(hb5.fresh f6).gr.text p
  obtain ⟨G8,f8,z8⟩:=told_fault (cp:=cp) (fuel:=fuel) hA hI T f7.wf g7 b2 hc
  have z9:=fun {d:Nat} {k:K}=>works_call (cp:=cp) (fuel:=fuel) (d:=d) (k:=k) (G:=G8) hwk
  refine ⟨G8,f5.trans (f6.trans (f7.trans f8)),fun d k => ?_⟩
  have z6':=fun {k:K}=>z6 (d+1) k
  have z7':=fun {k:K}=>z7 (d+1) k
  have z8':=fun {k:K}=>z8 (d+5) k
  have e9:(y+q) % 18446744073709551616=y+q:=by omega
  refine pre d k _ fun e' kn kx hkx y0 y5 y6 => ?_
  simp only [go_sem,reduceCtorEq,Nat.reduceAdd,Nat.reduceSub,Nat.reduceMul,Nat.reduceEqDiff,Nat.reduceLT,Nat.reduceDiv,Nat.reduceMod,Nat.reduceLeDiff,↓reduceIte,c6r7,y0,z6']
  simp only [go_sem,reduceCtorEq,Nat.reduceAdd,Nat.reduceSub,Nat.reduceMul,Nat.reduceEqDiff,Nat.reduceLT,Nat.reduceDiv,Nat.reduceMod,Nat.reduceLeDiff,↓reduceIte,c6r8,y5,↓zT,z7']
  simp only [go_sem,reduceCtorEq,Nat.reduceAdd,Nat.reduceSub,Nat.reduceMul,Nat.reduceEqDiff,Nat.reduceLT,Nat.reduceDiv,Nat.reduceMod,Nat.reduceLeDiff,↓reduceIte,c6r9,nilly_nili,nilly_iface]
  simp only [go_sem,reduceCtorEq,Nat.reduceAdd,Nat.reduceSub,Nat.reduceMul,Nat.reduceEqDiff,Nat.reduceLT,Nat.reduceDiv,Nat.reduceMod,Nat.reduceLeDiff,↓reduceIte,c6r10,c6r11]
  simp only [go_sem,reduceCtorEq,Nat.reduceAdd,Nat.reduceSub,Nat.reduceMul,Nat.reduceEqDiff,Nat.reduceLT,Nat.reduceDiv,Nat.reduceMod,Nat.reduceLeDiff,↓reduceIte,c6r12,c6r13,g76,y6,e9,z8',z9]
  rw [hkx]
  simp only [go_sem,↓op_app,reduceCtorEq,Nat.reduceAdd,Nat.reduceSub,Nat.reduceMul,Nat.reduceEqDiff,Nat.reduceLT,Nat.reduceDiv,Nat.reduceMod,Nat.reduceLeDiff,↓reduceIte]
end
end Go.Ev
end
