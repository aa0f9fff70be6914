/- LF: a part of the evaluator,of its logic,or of the laws' walk in it. -/
import Derived.Test.YtdimchccafgdoaaGreatDoorLB
import Derived.Test.YtdimchccafgdoaaGreatDoorLC
set_option linter.unusedVariables false
set_option linter.unusedSimpArgs false
set_option linter.unusedSectionVars false
section
namespace Go.Ev
structure FG (P:PC) (R0 E0:Nat) (lp:Blk) (c a:Nat) (G:Heap):Prop where
 f:Fresh P.H G
 n:P.Hb.n≤G.n
 lp:G.get P.y=lp
 zr0:G.get R0 = .cells [.nils]
 er:∃ q,G.get E0 = .cells [.iface 43 (.ptr q 0)]∧G.get q = .cells [.int 3 c, .int 3 a]∧P.Hb.n≤q∧q<G.n
structure RE (P:PC) (R0 E0:Nat):Prop where
 hR:P.H.n≤R0
 hE:P.H.n≤E0
 lR:R0<P.Hb.n
 lE:E0<P.Hb.n
 RE:R0≠E0
 RT:R0≠P.T
 Ry:R0≠P.y
 ET:E0≠P.T
 Ey:E0≠P.y
 RO:R0≠P.O
 RB:R0≠P.B
 EO:E0≠P.O
 EB:E0≠P.B
 gR:P.Hb.get R0 = .cells [.nils]
 gE:P.Hb.get E0 = .cells [.nili]
theorem FG.putY {P:PC} {R0 E0:Nat} {lp lp':Blk} {c a:Nat} {G:Heap} (kk:P.OK) (re:RE P R0 E0) (h:FG P R0 E0 lp c a G):FG P R0 E0 lp' c a (G.put P.y lp'):=by
 obtain ⟨h1,h2,h3,h4,q,h5,h6,h7,h8⟩:=h
 have l4:=kk.ly
 have hw:=h1.wf
 have hy:P.y<G.n:=by omega
 refine ⟨h1.put kk.hy hy,by rw [Heap.n_put];exact h2, ?_, ?_,q, ?_, ?_,h7,by rw [Heap.n_put];exact h8⟩
 ·rw [Heap.get_put hw hy,if_pos rfl]
 ·rw [Heap.get_put hw hy,if_neg re.Ry];exact h4
 ·rw [Heap.get_put hw hy,if_neg re.Ey];exact h5
 ·rw [Heap.get_put hw hy,if_neg (by omega)];exact h6
theorem nilly_nili {id:Nat} {f:Nat→R}:nilly id .nili f=f 50:=Eq.trans rfl rfl
theorem nilly_iface {id t:Nat} {v:V} {f:Nat→R}:nilly id (.iface t v) f=f 51:=Eq.trans rfl rfl
theorem closB_ii {id x y:Nat} {k:R}:closB id (.cells [.int 3 x, .int 3 y]) k=k:=Eq.trans rfl rfl
section
variable {t:Nat→Option FnE} {cp:RC→CodeE} {fuel:Nat} {dec:List UInt8→Nat × Nat} {num:List UInt8→Nat}
theorem parse_q7_bad (hA:t 27=some (.nat nAs)) {P:PC} (kk:P.OK) {R0 E0 Eb:Nat} (re:RE P R0 E0) {lp:Blk} {a c:Nat} {acc:List Stp} {bx:Blk} {G:Heap} (h:JG P lp (a+1) acc bx G) (ha:a<9223372036854775808) (hEb:G.get Eb = .cells [.int 3 0]) (hEn:P.Hb.n≤Eb) (hEl:Eb<G.n) :
  ∃ G',FG P R0 E0 lp c a G' ∧ ∀ (d:Nat) (kn:KE) (kx:Nat→KE) (e:Env) (x:R),pget ⟨.i0, .i1, .i4⟩ e = .iface 25 (.int 3 c)→pget ⟨.i0, .i1, .i5⟩ e = .ptr Eb 0→pget ⟨.i0, .i0, .i7⟩ e = .ptr P.T 0→pget ⟨.i0, .i0, .i2⟩ e = .ptr R0 0→pget ⟨.i0, .i0, .i3⟩ e = .ptr E0 0→(∀ e',kx 0 e' G'=x)→evC c11q7 fuel (evP cp t fuel (d+1)) e G kn kx=x:=by
 have hw:=h.f.wf
 have hn:=h.n
 have lT:=kk.lT
 have z1:=fun {d:Nat} {k:K}=>as_err (cp:=cp) (fuel:=fuel) (d:=d) (k:=k) (c:=c) hA hEb hw hEl
 generalize hG1:G.put Eb (.cells [.int 3 c])=G1 at z1
 have f1:Fresh P.H G1:=by rw [← hG1];exact h.f.put (by have:=h.f.n;have:=kk.hT;omega) hEl
 have n1:G1.n=G.n:=by rw [← hG1,Heap.n_put]
 have o1:∀ i,i≠Eb→G1.get i=G.get i:=fun i hi=>by rw [← hG1,Heap.get_put hw hEl,if_neg hi]
 have g1E:G1.get Eb = .cells [.int 3 c]:=by rw [← hG1,Heap.get_put hw hEl,if_pos rfl]
 have g1T:G1.get P.T = .cells [.int 3 (a+1)]:=by rw [o1 _ (by omega)];exact h.at_
 have hw1:=f1.wf
 generalize hG2:G1.new (.cells [.int 3 c, .int 3 a])=G2
 have f2:Fresh G1 G2:=by rw [← hG2];exact Fresh.new hw1
 have n2:G2.n=G1.n+1:=by rw [← hG2,Heap.n_new]
 have hw2:=f2.wf
 have g2q:G2.get G1.n = .cells [.int 3 c, .int 3 a]:=by rw [← hG2,Heap.get_new hw1,if_pos rfl]
 have o2:∀ i,i<G1.n→G2.get i=G1.get i:=f2.same
 have lR:R0<G2.n:=by have:=re.lR;omega
 have lE:E0<G2.n:=by have:=re.lE;omega
 have k2:Fresh P.H G2:=f1.trans f2
 have k3:Fresh P.H (G2.put R0 (.cells [.nils])):=k2.put re.hR lR
 have w3:=k3.wf
 have lE3:E0 < (G2.put R0 (.cells [.nils])).n:=by rw [Heap.n_put];exact lE
 have aT:(a+1+18446744073709551615) % 18446744073709551616=a:=by omega
 have m1:G1.mark.wf:=by rw [Heap.wf_mark];exact hw1
 have m2:(G1.mark.new (.cells [.int 3 c, .int 3 a])).get G1.n = .cells [.int 3 c, .int 3 a]:=by rw [Heap.get_new m1,if_pos Heap.n_mark.symm]
 have m3:G1.n≤(G1.mark.new (.cells [.int 3 c, .int 3 a])).wlo:=Nat.le_refl _
 have rl:=re.lR
 have g2R:G2.get R0 = .cells [.nils]:=by rw [o2 _ (by have:=re.lR;omega),o1 _ (by have:=re.lR;omega),h.same _ re.lR re.RO re.RT re.RB re.Ry];exact re.gR
 have g3E:(G2.put R0 (.cells [.nils])).get E0 = .cells [.nili]:=by rw [Heap.get_put hw2 lR,if_neg (Ne.symm re.RE),o2 _ (by have:=re.lE;omega),o1 _ (by have:=re.lE;omega),h.same _ re.lE re.EO re.ET re.EB re.Ey];exact re.gE
 have el:=re.lE
 refine ⟨(G2.put R0 (.cells [.nils])).put E0 (.cells [.iface 43 (.ptr G1.n 0)]),⟨k3.put re.hE lE3,by rw [Heap.n_put,Heap.n_put];omega, ?_, ?_,G1.n, ?_, ?_,by omega,by rw [Heap.n_put,Heap.n_put];omega⟩,fun d kn kx e x q14 q15 q7 q2 q3 hx => ?_⟩
 ·rw [Heap.get_put w3 lE3,if_neg (Ne.symm re.Ey),Heap.get_put hw2 lR,if_neg (Ne.symm re.Ry),o2 _ (by have:=kk.ly;omega),o1 _ (by have:=kk.ly;omega)];exact h.lp
 ·rw [Heap.get_put w3 lE3,if_neg re.RE,Heap.get_put hw2 lR,if_pos rfl]
 ·rw [Heap.get_put w3 lE3,if_pos rfl]
 ·rw [Heap.get_put w3 lE3,if_neg (by omega),Heap.get_put hw2 lR,if_neg (by omega)];exact g2q
 ·simp only [go_sem,↓op_app,reduceCtorEq,Nat.reduceAdd,Nat.reduceSub,Nat.reduceMul,Nat.reduceEqDiff,Nat.reduceLT,Nat.reduceDiv,Nat.reduceMod,Nat.reduceLeDiff,↓reduceIte,c11q7,q14,q15,isOne_iface,z1]
  simp only [go_sem,↓op_app,reduceCtorEq,Nat.reduceAdd,Nat.reduceSub,Nat.reduceMul,Nat.reduceEqDiff,Nat.reduceLT,Nat.reduceDiv,Nat.reduceMod,Nat.reduceLeDiff,↓reduceIte,evC_freg]
  refine (evFreg_2 (b:=Eb) (o:=0) (v := .int 3 c) (by simp only [go_sem,reduceCtorEq,↓reduceIte,q15]) (by omega) (fun k=>by simp only [go_sem,↓op_app,reduceCtorEq,Nat.reduceAdd,Nat.reduceSub,Nat.reduceMul,Nat.reduceEqDiff,Nat.reduceLT,Nat.reduceDiv,Nat.reduceMod,Nat.reduceLeDiff,↓reduceIte,q15,g1E]) (fun k=>apartN_nil)).trans ?_
  refine (evFreg_2 (b:=P.T) (o:=0) (v := .int 3 (a+1)) (by simp only [go_sem,reduceCtorEq,↓reduceIte,q7]) (by omega) (fun k=>by simp only [go_sem,↓op_app,reduceCtorEq,Nat.reduceAdd,Nat.reduceSub,Nat.reduceMul,Nat.reduceEqDiff,Nat.reduceLT,Nat.reduceDiv,Nat.reduceMod,Nat.reduceLeDiff,↓reduceIte,q7,g1T]) (fun k=>apartN_nil)).trans ?_
  simp only [go_sem,↓op_app,reduceCtorEq,Nat.reduceAdd,Nat.reduceSub,Nat.reduceMul,Nat.reduceEqDiff,Nat.reduceLT,Nat.reduceDiv,Nat.reduceMod,Nat.reduceLeDiff,↓reduceIte,evFreg_0,evFreg_4]
  rw [aT,hNew_new m1,Heap.n_mark,m2,if_pos m3,closB_ii,Heap.unmark_new,hG2]
  refine (evFreg_3 (b:=R0) (o:=0) (v := .tup []) (H':=G2.put R0 (.cells [.nils])) (by simp only [go_sem,reduceCtorEq,↓reduceIte,q2]) (fun k=>by simp only [go_sem,↓op_app,reduceCtorEq,Nat.reduceAdd,Nat.reduceSub,Nat.reduceMul,Nat.reduceEqDiff,Nat.reduceLT,Nat.reduceDiv,Nat.reduceMod,Nat.reduceLeDiff,↓reduceIte,q2,hw2,lR,g2R]) (fun k=>by simp only [apartN_cons,apartN_nil,re.RT,(show ¬ R0=G1.n by omega),(show ¬ R0=Eb by omega),Nat.zero_testBit,Bool.false_eq_true,if_false])).trans ?_
  simp only [go_sem,↓op_app,reduceCtorEq,Nat.reduceAdd,Nat.reduceSub,Nat.reduceMul,Nat.reduceEqDiff,Nat.reduceLT,Nat.reduceDiv,Nat.reduceMod,Nat.reduceLeDiff,↓reduceIte,evFreg_0,evFreg_nil,q3,hw2,lE,g3E,isOne_iface]
  exact hx _
def badC (num:List UInt8→Nat) (F:List (List UInt8)):Nat:=if (stepP num F).2≠0 then (stepP num F).2 else 3
theorem parse_q4_bad (hA:t 27=some (.nat nAs)) (T:TCode t) (S:SNat t dec num) {P:PC} (kk:P.OK) {R0 E0 M m W:Nat} (re:RE P R0 E0) (k0:PR0 P R0 E0 M m) {lp:Blk} {a:Nat} {acc:List Stp} {bx:Blk} {G:Heap} (h:JG P lp (a+1) acc bx G) (ha:a<9223372036854775808) {v:V} {w0:List UInt8} {l:List (List UInt8)} (gW:G.get W = .cells [v]) (hWn:W<G.n) (hv:WS G v (w0 :: l)) (hl:l.length<999999) (hx:∀ w ∈ w0 :: l,w.length≤16777216)
  (hs:(stepP num (w0 :: l)).2≠0∨acc.length=4096) (hacc:acc.length≤4096) :
  ∃ G',FG P R0 E0 lp (badC num (w0 :: l)) a G' ∧ ∀ (d:Nat) (kn:KE) (kx:Nat→KE) (e:Env) (x:R),PE P R0 E0 M W e→(∀ e',kx 0 e' G'=x)→evC c11q4 fuel (evP cp t fuel (d+3)) e G kn kx=x:=by
 have hw:=h.f.wf
 have hn:=h.n
 have gM:G.get M = .cells [.map m]:=(h.same M k0.Ml k0.MO k0.MT k0.MB k0.My).trans k0.gM
 have gm:G.get m = .map (encT (kMap 12)):=(h.same m k0.ml k0.mO k0.mT k0.mB k0.my).trans k0.gm
 have hml:=k0.ml
 obtain ⟨G1,f1,z1⟩:=step_call (cp:=cp) (fuel:=fuel) T S hw gm (by omega) hv hl hx
 generalize hse:(stepP num (w0 :: l)).1=s at z1
 have z1':=fun {d:Nat} {k:K}=>z1 d k
 have hw1:=f1.wf
 generalize hG2:(G1.new (.cells [.int 3 0, .int 3 0, .int 3 0, .str 0 0])).put G1.n (.cells s.cells)=G2
 have f12:Fresh G1 (G1.new (.cells [.int 3 0, .int 3 0, .int 3 0, .str 0 0])):=Fresh.new hw1
 have g1l:G1.n<G1.n+1:=by omega
 have f2:Fresh G G2:=by rw [← hG2];exact f1.trans (f12.put (Nat.le_refl _) (by rw [Heap.n_new];omega))
 have g2n:G2.n=G1.n+1:=by rw [← hG2,Heap.n_put,Heap.n_new]
 have hw2:=f2.wf
 generalize hG3:G2.new (.cells [.int 3 0])=G3
 have f3:Fresh G2 G3:=by rw [← hG3];exact Fresh.new hw2
 have g3n:G3.n=G2.n+1:=by rw [← hG3,Heap.n_new]
 have g3E:G3.get G2.n = .cells [.int 3 0]:=by rw [← hG3,Heap.get_new hw2,if_pos rfl]
 have h3:=(h.fresh kk f2).fresh kk f3
 have n1:=f1.n
 obtain ⟨G4,h4,z4⟩:=parse_q7_bad (cp:=cp) (fuel:=fuel) (Eb:=G2.n) (c:=badC num (w0 :: l)) hA kk re h3 ha g3E (by omega) (by omega)
 obtain ⟨vo,gO,hvo,_⟩:=(h.fresh kk f2).out
 have e1:∀ {id:Nat} {f:Nat→R},vSliceN id vo (fun _ _ len _ _=>f len) (f 0)=f acc.length:=fun {id f}=>hvo.sn
 have e2:∀ {id id2:Nat} {k:K},vSliceN id vo (fun _ _ n _ _=>lenR id2 n G2 k) (lenR id2 0 G2 k)=k (.int 3 acc.length) G2:=fun {id id2 k}=>(e1 (f:=fun n=>lenR id2 n G2 k)).trans (by rw [lenR_eq,if_pos (by omega)])
 have e3:∀ {id:Nat} {k:R},isOne id vo k=k:=fun {id k}=>hvo.is1
 have e5:s.cells.length=4:=rfl
 have e6:∀ {id:Nat} {x:R},allOne id s.cells x=x:=fun {id x}=>rfl
 have e7:∀ {id:Nat} {f:List V→R},setAt id s.cells [.int 3 0, .int 3 0, .int 3 0, .str 0 0] 0 f=f s.cells:=fun {id f}=>rfl
 have e8:∀ {id:Nat} {x:R},isOne id v x=x:=fun {id x}=>hv.one
 refine ⟨G4,h4,fun d kn kx e x E hx => ?_⟩
 have q4:=E.a4
 have q6:=E.a6
 have q11:=E.a11
 by_cases hc:(stepP num (w0 :: l)).2=0
 ·have hb:badC num (w0 :: l)=3:=by unfold badC;rw [if_neg (by rw [hc];simp)]
  have e4:(acc.length=4096)=True:=eq_true (by omega)
  have e0:errV 0 = .nili:=rfl
  rw [hc,e0] at z1'
  rw [hb] at z4
  simp only [go_sem,↓op_app,reduceCtorEq,Nat.reduceAdd,Nat.reduceSub,Nat.reduceMul,Nat.reduceEqDiff,Nat.reduceLT,Nat.reduceDiv,Nat.reduceMod,Nat.reduceLeDiff,↓reduceIte,c11q4,q4,q6,q11,gM,gW,e8,z1',hw1,g1l,e5,e6,e7,hG2]
  simp only [go_sem,↓op_app,reduceCtorEq,Nat.reduceAdd,Nat.reduceSub,Nat.reduceMul,Nat.reduceEqDiff,Nat.reduceLT,Nat.reduceDiv,Nat.reduceMod,Nat.reduceLeDiff,↓reduceIte,c11q5,c11q6,q6,gO,e2,e3,e4,hw2,hG3,nilly_nili]
  refine z4 _ kn kx _ x ?_ ?_ ?_ ?_ ?_ hx
  ·simp only [go_sem,reduceCtorEq,↓reduceIte]
  ·simp only [go_sem,reduceCtorEq,↓reduceIte]
  ·simp only [go_sem,↓op_app,reduceCtorEq,Nat.reduceAdd,Nat.reduceSub,Nat.reduceMul,Nat.reduceEqDiff,Nat.reduceLT,Nat.reduceDiv,Nat.reduceMod,Nat.reduceLeDiff,↓reduceIte,E.a7]
  ·simp only [go_sem,↓op_app,reduceCtorEq,Nat.reduceAdd,Nat.reduceSub,Nat.reduceMul,Nat.reduceEqDiff,Nat.reduceLT,Nat.reduceDiv,Nat.reduceMod,Nat.reduceLeDiff,↓reduceIte,E.a2]
  ·simp only [go_sem,↓op_app,reduceCtorEq,Nat.reduceAdd,Nat.reduceSub,Nat.reduceMul,Nat.reduceEqDiff,Nat.reduceLT,Nat.reduceDiv,Nat.reduceMod,Nat.reduceLeDiff,↓reduceIte,E.a3]
 ·have hb:badC num (w0 :: l)=(stepP num (w0 :: l)).2:=by unfold badC;rw [if_pos hc]
  have e0:errV (stepP num (w0 :: l)).2 = .iface 25 (.int 3 (badC num (w0 :: l))):=by unfold errV;rw [if_neg hc,hb]
  rw [e0] at z1'
  simp only [go_sem,↓op_app,reduceCtorEq,Nat.reduceAdd,Nat.reduceSub,Nat.reduceMul,Nat.reduceEqDiff,Nat.reduceLT,Nat.reduceDiv,Nat.reduceMod,Nat.reduceLeDiff,↓reduceIte,c11q4,q4,q6,q11,gM,gW,e8,z1',hw1,g1l,e5,e6,e7,hG2]
  simp only [go_sem,↓op_app,reduceCtorEq,Nat.reduceAdd,Nat.reduceSub,Nat.reduceMul,Nat.reduceEqDiff,Nat.reduceLT,Nat.reduceDiv,Nat.reduceMod,Nat.reduceLeDiff,↓reduceIte,c11q5,c11q6,q6,gO,e2,e3,hw2,hG3,nilly_nili,nilly_iface]
  refine z4 _ kn kx _ x ?_ ?_ ?_ ?_ ?_ hx
  ·simp only [go_sem,reduceCtorEq,↓reduceIte]
  ·simp only [go_sem,reduceCtorEq,↓reduceIte]
  ·simp only [go_sem,↓op_app,reduceCtorEq,Nat.reduceAdd,Nat.reduceSub,Nat.reduceMul,Nat.reduceEqDiff,Nat.reduceLT,Nat.reduceDiv,Nat.reduceMod,Nat.reduceLeDiff,↓reduceIte,E.a7]
  ·simp only [go_sem,↓op_app,reduceCtorEq,Nat.reduceAdd,Nat.reduceSub,Nat.reduceMul,Nat.reduceEqDiff,Nat.reduceLT,Nat.reduceDiv,Nat.reduceMod,Nat.reduceLeDiff,↓reduceIte,E.a2]
  ·simp only [go_sem,↓op_app,reduceCtorEq,Nat.reduceAdd,Nat.reduceSub,Nat.reduceMul,Nat.reduceEqDiff,Nat.reduceLT,Nat.reduceDiv,Nat.reduceMod,Nat.reduceLeDiff,↓reduceIte,E.a3]
end
end Go.Ev
end
section
namespace Go.Ev
theorem parseGo_bad {num:List UInt8→Nat} {w:List UInt8} {j c a:Nat} {acc:List Stp} (h:parseGo num [w] j acc = .error (c,a)) (hacc:acc.length≤4096) :
  a=j ∧ ¬ (fieldsP w=[]∨((fieldsP w).headD []).headD 0=35)∧c=badC num (fieldsP w)∧((stepP num (fieldsP w)).2≠0∨acc.length=4096):=by
 simp only [parseGo,lineP] at h
 by_cases hc:fieldsP w=[]∨((fieldsP w).headD []).headD 0=35
 ·rw [if_pos hc] at h;cases h
 ·rw [if_neg hc] at h
  simp only [] at h
  refine ⟨?_,hc, ?_⟩
  ·split at h
   ·cases h;rfl
   ·split at h
    ·cases h;rfl
    ·cases h
  ·unfold badC
   split at h
   ·rename_i h1
    cases h
    exact ⟨by rw [if_pos h1],Or.inl h1⟩
   ·rename_i h1
    split at h
    ·rename_i h2
     cases h
     exact ⟨by rw [if_neg h1],Or.inr h2⟩
    ·cases h
theorem parseGo_fail {num:List UInt8→Nat} {ls:List (List UInt8)} {e:Nat × Nat} (h:parseGo num ls 0 [] = .error e):∀ j,(∃ acc,parseGo num (ls.take j) 0 [] = .ok acc)∨parseGo num (ls.take j) 0 [] = .error e:=fun j=>by
 rw [← List.take_append_drop j ls,parseGo_app] at h
 cases hp:parseGo num (ls.take j) 0 [] with
 | ok acc=>exact Or.inl ⟨acc,rfl⟩
 | error x=>rw [hp] at h;exact Or.inr h
section
variable {t:Nat→Option FnE} {cp:RC→CodeE} {fuel:Nat} {H:Heap} {dec:List UInt8→Nat × Nat} {num:List UInt8→Nat}
theorem parse_q3_bad (hA:t 27=some (.nat nAs)) (T:TCode t) (S:SNat t dec num) {P:PC} (kk:P.OK) {R0 E0 M m W:Nat} (re:RE P R0 E0) (k0:PR0 P R0 E0 M m) {lp:Blk} {a:Nat} {acc:List Stp} {bx:Blk} {G:Heap} (h:JG P lp (a+1) acc bx G) (ha:a<9223372036854775808) {v:V} {F:List (List UInt8)} (gW:G.get W = .cells [v]) (hWn:W<G.n) (hv:WS G v F) (hl:F.length<999999) (hx:∀ w ∈ F,w≠[]∧w.length≤16777216) (hacc:acc.length≤4096)
  (hb:¬ (F=[]∨(F.headD []).headD 0=35)) (hs:(stepP num F).2≠0∨acc.length=4096) :
  ∃ G',FG P R0 E0 lp (badC num F) a G' ∧ ∀ (d:Nat) (kn:KE) (kx:Nat→KE) (e:Env) (x:R),PE P R0 E0 M W e→(∀ e',kx 0 e' G'=x)→evC c11q3 fuel (evP cp t fuel (d+3)) e G kn kx=x:=by
 cases F with
 | nil=>exact absurd (Or.inl rfl) hb
 | cons w0 l=>
  obtain ⟨b0,w',rfl⟩:∃ b0 w',w0=b0 :: w':=by
   cases w0 with
   | nil=>exact absurd rfl (hx _ (List.mem_cons_self ..)).1
   | cons b0 w'=>exact ⟨b0,w',rfl⟩
  rcases hv with ⟨_,hv⟩ | ⟨_,b,o,c,s,row,rfl,g2,g3,g4,g5⟩
  ·cases hv
  have hv:WS G (.slice b o ((b0 :: w') :: l).length c s) ((b0 :: w') :: l):=Or.inr ⟨by simp,b,o,c,s,row,rfl,g2,g3,g4,g5⟩
  have e8:∀ {id:Nat} {x:R},isOne id (V.slice b o ((b0 :: w') :: l).length c s) x=x:=fun {id x}=>hv.one
  have e4:∀ {id:Nat} {f:V→R},nth id row o f=f (tv (b0 :: w')):=fun {id f}=>nth_get (by simpa using g5 0 _ rfl)
  have l1:l.length+1<9223372036854775808:=by simp only [List.length_cons] at hl;omega
  have l2:¬ l.length+1=0:=by omega
  have l3:0<l.length+1:=by omega
  have l4:0<w'.length+1:=by omega
  have hE:enc (b0 :: w') >>> 0 &&& 255=b0.toNat:=by
   have:=enc_at (b0 :: w') 0 (by simp)
   simpa using this
  have hb1:¬ b0.toNat=35:=fun h=>hb (Or.inr (show b0=35 from UInt8.toNat_inj.1 h))
  have hb2:(b0.toNat=35)=False:=eq_false hb1
  obtain ⟨G',h',z'⟩:=parse_q4_bad (cp:=cp) (fuel:=fuel) hA T S kk re k0 h ha gW hWn hv (by simp only [List.length_cons] at hl;omega) (fun w hw=>(hx w hw).2) hs hacc
  refine ⟨G',h',fun d kn kx e x E hx => ?_⟩
  have q11:=E.a11
  simp only [List.length_cons] at gW
  simp only [go_sem,↓op_app,reduceCtorEq,Nat.reduceAdd,Nat.reduceSub,Nat.reduceMul,Nat.reduceEqDiff,Nat.reduceLT,Nat.reduceDiv,Nat.reduceMod,Nat.reduceLeDiff,↓reduceIte,c11q3,q11,gW,l1,l2,l3,g3,e4,isOne_tv,vStr_tv,l4,hE,hb2]
  refine z' d kn kx _ x ⟨?_, ?_, ?_, ?_, ?_, ?_⟩ hx
  ·simp only [go_sem,↓op_app,reduceCtorEq,Nat.reduceAdd,Nat.reduceSub,Nat.reduceMul,Nat.reduceEqDiff,Nat.reduceLT,Nat.reduceDiv,Nat.reduceMod,Nat.reduceLeDiff,↓reduceIte,E.a2]
  ·simp only [go_sem,↓op_app,reduceCtorEq,Nat.reduceAdd,Nat.reduceSub,Nat.reduceMul,Nat.reduceEqDiff,Nat.reduceLT,Nat.reduceDiv,Nat.reduceMod,Nat.reduceLeDiff,↓reduceIte,E.a3]
  ·simp only [go_sem,↓op_app,reduceCtorEq,Nat.reduceAdd,Nat.reduceSub,Nat.reduceMul,Nat.reduceEqDiff,Nat.reduceLT,Nat.reduceDiv,Nat.reduceMod,Nat.reduceLeDiff,↓reduceIte,E.a4]
  ·simp only [go_sem,↓op_app,reduceCtorEq,Nat.reduceAdd,Nat.reduceSub,Nat.reduceMul,Nat.reduceEqDiff,Nat.reduceLT,Nat.reduceDiv,Nat.reduceMod,Nat.reduceLeDiff,↓reduceIte,E.a6]
  ·simp only [go_sem,↓op_app,reduceCtorEq,Nat.reduceAdd,Nat.reduceSub,Nat.reduceMul,Nat.reduceEqDiff,Nat.reduceLT,Nat.reduceDiv,Nat.reduceMod,Nat.reduceLeDiff,↓reduceIte,E.a7]
  ·simp only [go_sem,↓op_app,reduceCtorEq,Nat.reduceAdd,Nat.reduceSub,Nat.reduceMul,Nat.reduceEqDiff,Nat.reduceLT,Nat.reduceDiv,Nat.reduceMod,Nat.reduceLeDiff,↓reduceIte,E.a11]
theorem parse_round_bad (hA:t 27=some (.nat nAs)) (T:TCode t) (S:SNat t dec num) (C:CPs cp) (hfu:1000001<fuel) {P:PC} (kk:P.OK) {R0 E0 M m:Nat} (re:RE P R0 E0) (k0:PR0 P R0 E0 M m) (he:PE0 P R0 E0 M P.e0) {j:Nat} {acc:List Stp} {bx:Blk} {G:Heap} (h:JG P (lpS P 0 0) j acc bx G) {s:List UInt8} (hs:s.length<999990) (hj:j<1000000000) (hacc:acc.length≤4096)
  (hb:¬ (fieldsP s=[]∨((fieldsP s).headD []).headD 0=35)) (hbad:(stepP num (fieldsP s)).2≠0∨acc.length=4096) :
  ∃ G',FG P R0 E0 (lpS P 2 1) (badC num (fieldsP s)) j G' ∧ ∀ (d:Nat) (k:K),callP (evP cp t fuel (d+4)) (.yld P.y) [tv s] G k=k (.bool false) G':=by
 have hw:=h.f.wf
 have hn:=h.n
 have ly:=kk.ly
 have lT:=kk.lT
 have hyG:P.y<G.n:=by omega
 generalize hG1:G.put P.y (lpS P 1 0)=G1
 have h1:JG P (lpS P 1 0) j acc bx G1:=by rw [← hG1];exact h.putY kk
 have hw1:=h1.f.wf
 have g1n:G1.n=G.n:=by rw [← hG1,Heap.n_put]
 generalize hG2:G1.new (.cells [.nils])=G2
 have f2:Fresh G1 G2:=by rw [← hG2];exact Fresh.new hw1
 have g2n:G2.n=G1.n+1:=by rw [← hG2,Heap.n_new]
 have g2W:G2.get G1.n = .cells [.nils]:=by rw [← hG2,Heap.get_new hw1,if_pos rfl]
 generalize he2:pset ⟨.i0, .i1, .i0⟩ (tv s) (pset ⟨.i0, .i2, .i4⟩ (tv s) P.e0)=e2
 generalize he3:pset ⟨.i0, .i1, .i1⟩ (.ptr G1.n 0) e2=e3
 obtain ⟨fl,fx⟩:=fields_len s []
 obtain ⟨G3,v,f3,n3,o3,g3W,hv3,off3,z3⟩:=words_run (cp:=cp) (t:=t) (fuel:=fuel) (e:=e3) T S C.na C.nb hfu hs f2 (Nat.le_refl _) (by omega) g2W (by rw [← he3,← he2];simp only [go_sem,↓op_app,reduceCtorEq,Nat.reduceAdd,Nat.reduceSub,Nat.reduceMul,Nat.reduceEqDiff,Nat.reduceLT,Nat.reduceDiv,Nat.reduceMod,Nat.reduceLeDiff,↓reduceIte]) (by rw [← he3];simp only [go_sem,↓op_app,reduceCtorEq,Nat.reduceAdd,Nat.reduceSub,Nat.reduceMul,Nat.reduceEqDiff,Nat.reduceLT,Nat.reduceDiv,Nat.reduceMod,Nat.reduceLeDiff,↓reduceIte])
 have h3:=h1.fresh kk f3
 have hw3:=f3.wf
 have hT3:P.T<G3.n:=by omega
 have g3T:=h3.at_
 generalize hG4:G3.put P.T (.cells [.int 3 (j+1)])=G4
 have h4:JG P (lpS P 1 0) (j+1) acc bx G4:=by rw [← hG4];exact h3.putT kk
 have g4n:G4.n=G3.n:=by rw [← hG4,Heap.n_put]
 have g4W:G4.get G1.n = .cells [v]:=by rw [← hG4,Heap.get_put hw3 hT3,if_neg (by omega)];exact g3W
 have hv4:WS G4 v (fieldsP s):=by rw [← hG4];exact hv3.put hw3 hT3 (off3 _ (by omega))
 have fl1:(fieldsP s).length<999999:=by show (fieldsGo s []).length<_;omega
 obtain ⟨G5,h5,z5⟩:=parse_q3_bad (cp:=cp) (fuel:=fuel) (W:=G1.n) hA T S kk re k0 h4 (by omega) g4W (by omega) hv4 fl1 (fun w hw=>⟨(fx w hw).1,by have:=(fx w hw).2;simp at this;omega⟩) hacc hb hbad
 have e1:(j+1) % 18446744073709551616=j+1:=by omega
 refine ⟨G5.put P.y (lpS P 2 1),h5.putY kk re,fun d k => ?_⟩
 rw [callP_yld]
 refine evY_outC (n:=0) (e1:=pset ⟨.i0, .i2, .i4⟩ (tv s) P.e0) (e2:=e2) (H2:=G) h.lp (fun f=>by simp only [go_sem,reduceCtorEq,↓reduceIte]) (fun kn kx => ?_) h.lp hw hyG (fun kn kx x hx => ?_) h5.lp h5.f.wf (by have:=h5.n;omega)
 ·rw [C.a]
  simp only [go_sem,↓op_app,reduceCtorEq,Nat.reduceAdd,Nat.reduceSub,Nat.reduceMul,Nat.reduceEqDiff,Nat.reduceLT,Nat.reduceDiv,Nat.reduceMod,Nat.reduceLeDiff,↓reduceIte,c11a,he2]
 ·rw [C.b]
  have hG1':G.put P.y (.loop 1 0 P.e0 [⟨.i0, .i2, .i4⟩] r11.1 r11.2)=G1:=hG1
  rw [hG1']
  simp only [go_sem,↓op_app,reduceCtorEq,Nat.reduceAdd,Nat.reduceSub,Nat.reduceMul,Nat.reduceEqDiff,Nat.reduceLT,Nat.reduceDiv,Nat.reduceMod,Nat.reduceLeDiff,↓reduceIte,c11b,hw1,he3,hG2]
  refine z3 d _ _ x ?_
  have q7:pget ⟨.i0, .i0, .i7⟩ e3 = .ptr P.T 0:=by rw [← he3,← he2];simp only [go_sem,↓op_app,reduceCtorEq,Nat.reduceAdd,Nat.reduceSub,Nat.reduceMul,Nat.reduceEqDiff,Nat.reduceLT,Nat.reduceDiv,Nat.reduceMod,Nat.reduceLeDiff,↓reduceIte,he.a7]
  simp only [go_sem,↓op_app,reduceCtorEq,Nat.reduceAdd,Nat.reduceSub,Nat.reduceMul,Nat.reduceEqDiff,Nat.reduceLT,Nat.reduceDiv,Nat.reduceMod,Nat.reduceLeDiff,↓reduceIte,c11q2,q7,g3T,e1,hw3,hT3,hG4]
  refine z5 d _ _ _ x ⟨?_, ?_, ?_, ?_, ?_, ?_⟩ (fun e' => ?_)
  ·simp only [go_sem,↓op_app,reduceCtorEq,Nat.reduceAdd,Nat.reduceSub,Nat.reduceMul,Nat.reduceEqDiff,Nat.reduceLT,Nat.reduceDiv,Nat.reduceMod,Nat.reduceLeDiff,↓reduceIte,← he3,← he2,he.a2]
  ·simp only [go_sem,↓op_app,reduceCtorEq,Nat.reduceAdd,Nat.reduceSub,Nat.reduceMul,Nat.reduceEqDiff,Nat.reduceLT,Nat.reduceDiv,Nat.reduceMod,Nat.reduceLeDiff,↓reduceIte,← he3,← he2,he.a3]
  ·simp only [go_sem,↓op_app,reduceCtorEq,Nat.reduceAdd,Nat.reduceSub,Nat.reduceMul,Nat.reduceEqDiff,Nat.reduceLT,Nat.reduceDiv,Nat.reduceMod,Nat.reduceLeDiff,↓reduceIte,← he3,← he2,he.a4]
  ·simp only [go_sem,↓op_app,reduceCtorEq,Nat.reduceAdd,Nat.reduceSub,Nat.reduceMul,Nat.reduceEqDiff,Nat.reduceLT,Nat.reduceDiv,Nat.reduceMod,Nat.reduceLeDiff,↓reduceIte,← he3,← he2,he.a6]
  ·simp only [go_sem,↓op_app,reduceCtorEq,Nat.reduceAdd,Nat.reduceSub,Nat.reduceMul,Nat.reduceEqDiff,Nat.reduceLT,Nat.reduceDiv,Nat.reduceMod,Nat.reduceLeDiff,↓reduceIte,← he3,← he2,he.a7]
  ·simp only [go_sem,↓op_app,reduceCtorEq,Nat.reduceAdd,Nat.reduceSub,Nat.reduceMul,Nat.reduceEqDiff,Nat.reduceLT,Nat.reduceDiv,Nat.reduceMod,Nat.reduceLeDiff,↓reduceIte,← he3]
  ·exact hx e'
theorem parse_loop_bad (hA:t 27=some (.nat nAs)) (T:TCode t) (S:SNat t dec num) (C:CPs cp) (hfu:1000001<fuel) {P:PC} (kk:P.OK) {R0 E0 M m A Cc:Nat} (re:RE P R0 E0) (k0:PR0 P R0 E0 M m) (he:PE0 P R0 E0 M P.e0) {s:List UInt8} (hs:s.length<999990) {c a:Nat} (ho:parseGo num (linesP s) 0 [] = .error (c,a))
  (hf:Fresh P.H P.Hb) (hl:P.Hb.get P.y=lpS P 0 0) (hT:P.Hb.get P.T = .cells [.int 3 0]) (hO:P.Hb.get P.O = .cells [.nils]) (hB:P.Hb.get P.B = .cells [tv s])
  (hA':P.Hb.get A = .cells [tv [10]]) (hC:P.Hb.get Cc = .cells [.int 3 0]) (nA:A<P.Hb.n∧A≠P.O∧A≠P.T∧A≠P.B∧A≠P.y) (nC:Cc<P.Hb.n∧Cc≠P.O∧Cc≠P.T∧Cc≠P.B∧Cc≠P.y) :
  ∃ G,FG P R0 E0 (lpS P 2 1) c a G ∧ ∀ (d:Nat) (k:K),callP (evP cp t fuel (d+5)) (.func 114 [.ptr A 0, .ptr P.B 0, .ptr Cc 0]) [.yld P.y] P.Hb k=k (.tup []) G:=by
 have lines:=lines_len s
 have L:LI cp t fuel s P.B A Cc P.y 3 (fun j G => ∃ acc bx,parseGo num ((linesP s).take j) 0 [] = .ok acc∧acc.length≤4096∧JG P (lpS P 0 0) j acc bx G) (fun _ G=>FG P R0 E0 (lpS P 2 1) c a G):=by
  refine ⟨fun j G ⟨acc,bx,h1,h2,h3⟩=>⟨(h3.same A nA.1 nA.2.1 nA.2.2.1 nA.2.2.2.1 nA.2.2.2.2).trans hA',(h3.same Cc nC.1 nC.2.1 nC.2.2.1 nC.2.2.2.1 nC.2.2.2.2).trans hC,h3.f.wf,by have:=h3.n;have:=kk.lB;omega⟩,
   fun j G x ⟨acc,bx,h1,h2,h3⟩=>⟨acc,x,h1,h2,h3.putB kk⟩,
   fun j G x ⟨acc,bx,h1,h2,h3⟩=>(h3.putB kk (x:=x)).bB,
   fun j w G hw ⟨acc,bx,h1,h2,h3⟩ => ?_⟩
  have h5:=parseGo_next hw h1
  have hjl:j < (linesP s).length:=by
   rcases Nat.lt_or_ge j (linesP s).length with h | h
   ·exact h
   ·rw [List.getElem?_eq_none h] at hw;cases hw
  have hwl:=lines.2 w (List.mem_of_getElem? hw)
  rcases parseGo_fail ho (j+1) with ⟨acc',h4⟩ | h4
  ·rw [h4] at h5
   obtain ⟨G',g1,g2⟩:=parse_round (cp:=cp) (t:=t) (fuel:=fuel) T S C hfu kk k0 he h3 (s:=w) (by omega) (by omega) h2 (parseGo_one h5.symm h2)
   exact Or.inl ⟨G',⟨acc',bx,h4,parseGo_len num _ _ _ _ (by simp) h4,g1⟩,g1.bB.trans h3.bB.symm,fun d k=>g2 d k⟩
  ·rw [h4] at h5
   obtain ⟨rfl,b1,rfl,b2⟩:=parseGo_bad h5.symm h2
   obtain ⟨G',g1,g2⟩:=parse_round_bad (cp:=cp) (t:=t) (fuel:=fuel) hA T S C hfu kk re k0 he h3 (s:=w) (by omega) (by omega) h2 b1 b2
   exact Or.inr ⟨G',g1,fun d k=>g2 d k⟩
 have h0:JG P (lpS P 0 0) 0 [] (.cells [tv s]) P.Hb:=⟨hf,Nat.le_refl _,fun _ _ _ _ _ _=>rfl,hl,hT,hB, .nils,hO,Gr.nils,fun i _ b o n c s h=>by cases h⟩
 obtain ⟨G,hG,z⟩:=lines_call (cp:=cp) (fuel:=fuel) T S L hfu (by omega) ⟨[],_,by rw [List.take_zero];rfl,by simp,h0⟩ hB
 rcases hG with ⟨i,hG,_⟩ | ⟨acc,bx,g1,g2,g3⟩
 ·exact ⟨G,hG,fun d k=>z d k⟩
 ·rw [List.take_length,ho] at g1
  cases g1
theorem parse_bad (hA:t 27=some (.nat nAs)) (T:TCode t) (S:SNat t dec num) (C:CPs cp) (hw:H.wf) (hfu:1000001<fuel) {s:List UInt8} (hs:s.length<999990) {c a:Nat} (ho:parseGo num (linesP s) 0 [] = .error (c,a)) :
  ∃ G q,Fresh H G∧H.n≤q∧q<G.n∧G.get q = .cells [.int 3 c, .int 3 a] ∧ ∀ (d:Nat) (k:K),callP (evP cp t fuel (d+6)) (.func 22 []) [tv s] H k=k (.tup [.nils, .iface 43 (.ptr q 0)]) G:=by
 obtain ⟨P,Hc,M,m,B,z⟩:=parse_pre (cp:=cp) (t:=t) (fuel:=fuel) T hw hfu s
 have kk:=B.ok
 have hy:=B.y
 have hn:=B.n
 have lo:=B.lo
 have re:RE P H.n (H.n+1):=⟨by rw [B.pH];exact Nat.le_refl _,by rw [B.pH];omega,by omega,by omega,by omega,by omega,by omega,by omega,by omega,by omega,by omega,by omega,by omega,B.zr0,B.e0⟩
 obtain ⟨G,h,zl⟩:=parse_loop_bad (cp:=cp) (t:=t) (fuel:=fuel) (A:=P.B+1) (Cc:=P.B+1+1) hA T S C hfu kk re B.k0 B.he hs ho (by rw [B.pH];exact B.f) B.lp B.T B.O B.B B.A B.C (by omega) (by omega)
 have ly:P.y<G.n:=by have:=h.n;omega
 obtain ⟨hf,hG,h3,h4,q,h5,h6,h7,h8⟩:=h.putY kk re (lp':=lpS P 3 1)
 rw [B.pH] at hf
 have hfn:=B.f.n
 refine ⟨_,q,hf,by omega,h8,h6,fun d k => ?_⟩
 refine z d k _ fun kn kx hkn hkx => ?_
 have hz:∀ k:K,callP (evP cp t fuel (d+5)) (.func 114 [.ptr (P.B+1) 0, .ptr P.B 0, .ptr (P.B+1+1) 0]) [.yld (Hc.n+1)] ((Hc.new .mark).new (.loop 0 0 P.e0 [⟨.i0, .i2, .i4⟩] r11.1 r11.2)) k=k (.tup []) G:=fun k=>by
  have h1:=zl d k
  rw [B.hb,show P.y=Hc.n+1 by rw [B.cn];exact hy] at h1
  exact h1
 have hwG:=h.f.wf
 rw [evC_rangeF_out (n:=0) B.cw B.g23 rfl hz (by rw [show Hc.n+1=P.y by rw [B.cn];exact hy.symm];exact h.lp) hwG (by rw [show Hc.n+1=P.y by rw [B.cn];exact hy.symm];exact ly),hkx]
 rw [show Hc.n+1=P.y by rw [B.cn];exact hy.symm]
 have q2:=B.he.a2
 have q3:=B.he.a3
 have h4':(G.put P.y (.loop 3 (0+1) P.e0 [⟨.i0, .i2, .i4⟩] r11.1 r11.2)).get H.n = .cells [.nils]:=h4
 have h5':(G.put P.y (.loop 3 (0+1) P.e0 [⟨.i0, .i2, .i4⟩] r11.1 r11.2)).get (H.n+1) = .cells [.iface 43 (.ptr q 0)]:=h5
 rw [retF_11,q2,q3]
 generalize G.put P.y (.loop 3 (0+1) P.e0 [⟨.i0, .i2, .i4⟩] r11.1 r11.2)=G9 at h4' h5'
 simp only [go_sem,↓op_app,reduceCtorEq,Nat.reduceAdd,Nat.reduceSub,Nat.reduceMul,Nat.reduceEqDiff,Nat.reduceLT,Nat.reduceDiv,Nat.reduceMod,Nat.reduceLeDiff,↓reduceIte,h4',h5',isOne_iface]
end
end Go.Ev
end
section
namespace Go.Ev
theorem bf_rem {id half a b:Nat} {f:Nat→R} (ha:a<half) (hb:b<half) (h0:b≠0):evBF id (.rem half) a b f=f (a % b):=by
 show ifB (Nat.blt a half) (ifB (Nat.blt b half) (ifB (Nat.beq b 0) (no 0) (forceN (Nat.mod a b) f)) (no 0)) (no 0)=_
 rw [ifB_if,if_pos (by rw [Nat.blt_eq];exact ha),ifB_if,if_pos (by rw [Nat.blt_eq];exact hb),ifB_if,if_neg (by rw [nbeq];exact h0),forceN_eq]
 rfl
theorem bf_quo {id half a b:Nat} {f:Nat→R} (ha:a<half) (hb:b<half) (h0:b≠0):evBF id (.quo half) a b f=f (a / b):=by
 show ifB (Nat.blt a half) (ifB (Nat.blt b half) (ifB (Nat.beq b 0) (no 0) (forceN (Nat.div a b) f)) (no 0)) (no 0)=_
 rw [ifB_if,if_pos (by rw [Nat.blt_eq];exact ha),ifB_if,if_pos (by rw [Nat.blt_eq];exact hb),ifB_if,if_neg (by rw [nbeq];exact h0),forceN_eq]
 rfl
theorem decD_split {n:Nat} (h1:10≤n) (h2:n<10000):decD n=decD (n / 10) ++ decD (n % 10):=by
 have a1:n % 10<10:=by omega
 have a2:n / 10 / 10=n / 100:=by omega
 have a3:n / 10 / 100=n / 1000:=by omega
 have a4:n / 10 % 10=n / 10 % 10:=rfl
 have a5:¬ n<10:=by omega
 have a6:n / 10 / 10 % 10=n / 100 % 10:=by omega
 rw [show decD (n % 10)=[UInt8.ofNat (48+n % 10)] by unfold decD;rw [if_pos a1]]
 unfold decD
 rw [if_neg a5]
 by_cases b1:n<100
 ·rw [if_pos b1,if_pos (by omega)]
  rfl
 ·rw [if_neg b1,if_neg (show ¬ n / 10<10 by omega)]
  by_cases b2:n<1000
  ·rw [if_pos b2,if_pos (show n / 10<100 by omega),a2]
   rfl
  ·rw [if_neg b2,if_neg (show ¬ n / 10<100 by omega),if_pos (show n / 10<1000 by omega),a3,a6]
   rfl
section
variable {t:Nat→Option FnE} {cp:RC→CodeE} {fuel:Nat}
theorem digit_one (T:TCode t) {n:Nat} (hn:n<10) {H:Heap} (hw:H.wf):∃ G,Fresh H G ∧ ∀ (d:Nat) (k:K),callP (evP cp t fuel (d+1)) (.func 80 []) [.int 3 n] H k=k (tv (decD n)) G:=by
 refine ⟨_,Fresh.new hw (x := .bytes 1 (48+n)),fun d k => ?_⟩
 have e1:nn n:=by unfold nn;omega
 have e3:n % 256=n:=by omega
 have e4:(48+n) % 256=48+n:=by omega
 have e5:V.str 1 ((48+n) >>> 0 % 256 ^ 1)=tv (decD n):=by
  have h1:decD n=[UInt8.ofNat (48+n)]:=by unfold decD;rw [if_pos hn]
  rw [h1,tv_cons,toNat_ofNat (by omega),Nat.shiftRight_zero]
  simp only [enc,List.length_nil]
  congr 1
 rw [call_entry T.k40 rfl rfl]
 simp only [go_sem,↓op_app,reduceCtorEq,Nat.reduceAdd,Nat.reduceSub,Nat.reduceMul,Nat.reduceEqDiff,Nat.reduceLT,Nat.reduceDiv,Nat.reduceMod,Nat.reduceLeDiff,↓reduceIte,c40,e1,hn,e3,e4,hw,e5]
theorem digits_call (T:TCode t):∀ (q n:Nat),n<10 ^ (q+1)→n<10000 → ∀ (H:Heap),H.wf → ∃ G,Fresh H G ∧ ∀ (d:Nat) (k:K),callP (evP cp t fuel (d+q+1)) (.func 80 []) [.int 3 n] H k=k (tv (decD n)) G:=by
 intro q
 induction q with
 | zero=>exact fun n hn _ H hw=>digit_one T (by omega) hw
 | succ q ih=>
  intro n hn hn2 H hw
  by_cases h10:n<10
  ·obtain ⟨G,f,z⟩:=digit_one (cp:=cp) (fuel:=fuel) T h10 hw
   exact ⟨G,f,fun d k=>z (d+(q+1)) k⟩
  ·have hp:10 ^ (q+1+1)=10 ^ (q+1) * 10:=Nat.pow_succ ..
   have hp1:10≤10 ^ (q+1):=by
    have:0<10 ^ q:=Nat.pow_pos (by decide)
    rw [Nat.pow_succ];omega
   obtain ⟨G1,f1,z1⟩:=ih (n / 10) (by omega) (by omega) H hw
   obtain ⟨G2,f2,z2⟩:=ih (n % 10) (by omega) (by omega) G1 f1.wf
   refine ⟨G2,f1.trans f2,fun d k => ?_⟩
   have e1:nn n:=by unfold nn;omega
   have zr1:∀ {id:Nat} {f:Nat→R},evBF id (.quo 9223372036854775808) n 10 f=f (n / 10):=fun {id f}=>bf_quo (by omega) (by omega) (by omega)
   have zr2:∀ {id:Nat} {f:Nat→R},evBF id (.rem 9223372036854775808) n 10 f=f (n % 10):=fun {id f}=>bf_rem (by omega) (by omega) (by omega)
   have z1':=fun {k:K}=>z1 d k
   have z2':=fun {k:K}=>z2 d k
   have e5:V.str ((decD (n / 10)).length+(decD (n % 10)).length) (enc (decD (n / 10))+enc (decD (n % 10)) * 256 ^ (decD (n / 10)).length)=tv (decD n):=by
    rw [tv_append,← decD_split (by omega) hn2]
   show callP (evP cp t fuel (d+q+1+1)) (.func 80 []) [.int 3 n] H k=_
   rw [call_entry T.k40 rfl rfl]
   simp only [go_sem,↓op_app,reduceCtorEq,Nat.reduceAdd,Nat.reduceSub,Nat.reduceMul,Nat.reduceEqDiff,Nat.reduceLT,Nat.reduceDiv,Nat.reduceMod,Nat.reduceLeDiff,↓reduceIte,c40,e1,h10,zr1,zr2,z1',z2',vStr_tv,hw]
   have h1:=decD_len (n / 10)
   have h2:=decD_len (n % 10)
   rw [if_pos (by omega),e5]
theorem within2_call (T:TCode t) {n m:Nat} {H:Heap} (hn:n<18446744073709551616) (hm:m<18446744073709551616) (d:Nat) (k:K):callP (evP cp t fuel (d+1)) (.func 76 []) [.int 3 n, .int 3 m] H k=k (.bool (within n m)) H:=by
 have e1:=ge0 hn
 have e2:=max0 hm
 have e3:nn (if m<9223372036854775808 then m else 0):=by unfold nn;split <;> omega
 rw [call_entry T.k38 rfl rfl]
 by_cases h:n<9223372036854775808
 ·have e4:nn n:=h
  simp only [go_sem,↓op_app,reduceCtorEq,Nat.reduceAdd,Nat.reduceSub,Nat.reduceMul,Nat.reduceEqDiff,Nat.reduceLT,Nat.reduceDiv,Nat.reduceMod,Nat.reduceLeDiff,↓reduceIte,c38,e1,e2,e3,e4,h]
  by_cases h2:n≤(if m<9223372036854775808 then m else 0)
  ·simp only [within,h,h2,if_true,decide_true,Bool.and_self]
  ·simp only [within,h,h2,if_false,decide_true,decide_false,Bool.and_false]
 ·simp only [go_sem,↓op_app,reduceCtorEq,Nat.reduceAdd,Nat.reduceSub,Nat.reduceMul,Nat.reduceEqDiff,Nat.reduceLT,Nat.reduceDiv,Nat.reduceMod,Nat.reduceLeDiff,↓reduceIte,c38,e1,h]
  simp only [within,h,decide_false,Bool.false_and]
def dataB (s:List UInt8):Bool:=decide (s≠[]) && decide (s.length≤32) && !s.any oddB
theorem data_loop (T:TCode t) {s:List UInt8} {H:Heap} (hs:s.length≤32):∀ (m i:Nat),i+m=s.length→(s.take i).any oddB=false → ∀ (ph:Phi) (kx:Nat→KE) (r:Nat) (e:Env),m<r→pget ⟨.i0, .i0, .i0⟩ e=tv s→pget ⟨.i0, .i0, .i3⟩ e = .int 3 i →
  ∀ x:R,(s.any oddB=false → ∀ e',kx 1 e' H=x)→(s.any oddB=true → ∀ e',pget ⟨.i0, .i0, .i2⟩ e' = .bool false→kx 0 e' H=x)→evL c39l0 fuel ph kx r e H=x:=by
 intro m
 induction m with
 | zero=>
  intro i hi ht ph kx r e hr h0 h3 x hY hN
  obtain ⟨r,rfl⟩:∃ q,r=q+1:=⟨r-1,by omega⟩
  obtain rfl:i=s.length:=by omega
  have e1:nn s.length:=by unfold nn;omega
  have e2:¬ s.length<s.length:=by omega
  have e3:s.length<9223372036854775808:=by omega
  rw [evL_succ]
  simp only [go_sem,↓op_app,reduceCtorEq,Nat.reduceAdd,Nat.reduceSub,Nat.reduceMul,Nat.reduceEqDiff,Nat.reduceLT,Nat.reduceDiv,Nat.reduceMod,Nat.reduceLeDiff,↓reduceIte,c39l0,h0,h3,vStr_tv,e1,e2,e3]
  rw [List.take_length] at ht
  exact hY ht _
 | succ m ih=>
  intro i hi ht ph kx r e hr h0 h3 x hY hN
  obtain ⟨r,rfl⟩:∃ q,r=q+1:=⟨r-1,by omega⟩
  have hlt:i<s.length:=by omega
  have g1:s[i]? = some s[i]:=List.getElem?_eq_getElem hlt
  have hE:=enc_at s i hlt
  have hst:(s.take (i+1)).any oddB=oddB s[i]:=by
   rw [List.take_succ_eq_append_getElem hlt,List.any_append,ht]
   simp
  have hmem:s[i] ∈ s:=List.getElem_mem hlt
  have e1:nn i:=by unfold nn;omega
  have e2:nn s.length:=by unfold nn;omega
  have e3:s.length<9223372036854775808:=by omega
  have e4:i<9223372036854775808:=by omega
  have e5:(i+1) % 18446744073709551616=i+1:=by omega
  generalize s[i]=b at hE hst hmem
  have hb:=b.toNat_lt
  have l1:(evCF (.lt 0 256) b.toNat 33=true)=(b.toNat<33):=by rw [cf_lt];apply propext;omega
  have l2:(evCF (.gt 0 256) b.toNat 126=true)=(126<b.toNat):=by rw [cf_gt];apply propext;omega
  have hodd:oddB b=true→s.any oddB=true:=fun h=>List.any_eq_true.2 ⟨b,hmem,h⟩
  rw [evL_succ]
  by_cases q1:b.toNat<33
  ·simp only [go_sem,↓op_app,reduceCtorEq,Nat.reduceAdd,Nat.reduceSub,Nat.reduceMul,Nat.reduceEqDiff,Nat.reduceLT,Nat.reduceDiv,Nat.reduceMod,Nat.reduceLeDiff,↓reduceIte,c39l0,h0,h3,vStr_tv,e1,e2,e3,e4,e5,hlt,hE,l1,q1]
   exact hN (hodd (by simp [oddB,q1])) _ (by simp only [go_sem,reduceCtorEq,↓reduceIte])
  ·by_cases q2:126<b.toNat
   ·simp only [go_sem,↓op_app,reduceCtorEq,Nat.reduceAdd,Nat.reduceSub,Nat.reduceMul,Nat.reduceEqDiff,Nat.reduceLT,Nat.reduceDiv,Nat.reduceMod,Nat.reduceLeDiff,↓reduceIte,c39l0,h0,h3,vStr_tv,e1,e2,e3,e4,e5,hlt,hE,l1,l2,q1,q2]
    exact hN (hodd (by simp [oddB,q2])) _ (by simp only [go_sem,reduceCtorEq,↓reduceIte])
   ·simp only [go_sem,↓op_app,reduceCtorEq,Nat.reduceAdd,Nat.reduceSub,Nat.reduceMul,Nat.reduceEqDiff,Nat.reduceLT,Nat.reduceDiv,Nat.reduceMod,Nat.reduceLeDiff,↓reduceIte,c39l0,h0,h3,vStr_tv,e1,e2,e3,e4,e5,hlt,hE,l1,l2,q1,q2]
    refine ih (i+1) (by omega) (by rw [hst];simp [oddB,q1,q2]) ph kx r _ (by omega) ?_ ?_ x hY hN <;> simp only [go_sem,reduceCtorEq,↓reduceIte,h0]
theorem data_call (T:TCode t) {s:List UInt8} {H:Heap} (hs:s.length<9223372036854775808) (hfu:100<fuel) (d:Nat) (k:K):callP (evP cp t fuel (d+1)) (.func 78 []) [tv s] H k=k (.bool (dataB s)) H:=by
 have e1:nn s.length:=hs
 rw [call_entry T.k39 rfl rfl]
 by_cases h1:s.length<1
 ·have:s=[]:=List.eq_nil_of_length_eq_zero (by omega)
  have hd:dataB s=false:=by rw [this];rfl
  rw [hd]
  simp only [go_sem,↓op_app,reduceCtorEq,Nat.reduceAdd,Nat.reduceSub,Nat.reduceMul,Nat.reduceEqDiff,Nat.reduceLT,Nat.reduceDiv,Nat.reduceMod,Nat.reduceLeDiff,↓reduceIte,c39,vStr_tv,hs,e1,h1]
 ·have hne:s≠[]:=fun h=>h1 (by rw [h];simp)
  by_cases h2:32<s.length
  ·have hd:dataB s=false:=by simp [dataB];omega
   rw [hd]
   simp only [go_sem,↓op_app,reduceCtorEq,Nat.reduceAdd,Nat.reduceSub,Nat.reduceMul,Nat.reduceEqDiff,Nat.reduceLT,Nat.reduceDiv,Nat.reduceMod,Nat.reduceLeDiff,↓reduceIte,c39,vStr_tv,hs,e1,h1,h2]
  ·have hd:dataB s = !s.any oddB:=by simp [dataB,hne];omega
   rw [hd]
   simp only [go_sem,↓op_app,reduceCtorEq,Nat.reduceAdd,Nat.reduceSub,Nat.reduceMul,Nat.reduceEqDiff,Nat.reduceLT,Nat.reduceDiv,Nat.reduceMod,Nat.reduceLeDiff,↓reduceIte,c39,vStr_tv,hs,e1,h1,h2]
   refine data_loop (s:=s) (H:=H) T (by omega) s.length 0 (by omega) (by simp) _ _ fuel _ (by omega) ?_ ?_ _ (fun h e' => ?_) (fun h e' h2 => ?_)
   ·simp only [go_sem,reduceCtorEq,↓reduceIte]
   ·simp only [go_sem,reduceCtorEq,↓reduceIte]
   ·simp only [go_sem,↓op_app,reduceCtorEq,Nat.reduceAdd,Nat.reduceSub,Nat.reduceMul,Nat.reduceEqDiff,Nat.reduceLT,Nat.reduceDiv,Nat.reduceMod,Nat.reduceLeDiff,↓reduceIte,h]
   ·simp only [go_sem,↓op_app,reduceCtorEq,Nat.reduceAdd,Nat.reduceSub,Nat.reduceMul,Nat.reduceEqDiff,Nat.reduceLT,Nat.reduceDiv,Nat.reduceMod,Nat.reduceLeDiff,↓reduceIte,h,h2]
end
end Go.Ev
end
section
namespace Go.Ev
theorem isB_tup {l:List V} {b:Bool} {t f:R}:isB (.tup l) b t f=f:=Eq.trans rfl rfl
def KRow.rc (r:KRow):List V:=[tv r.w, .int 3 r.a, .int 3 r.b, .bool r.d]
def rowsR:List V:=kindsT.flatMap KRow.rc
theorem rowsR_len:rowsR.length=48:=rfl
theorem rowsR_at:∀ i r,kindsT[i]? = some r→(rowsR.drop (i * 4)).take 4=r.rc
 | 0,r,h=>by cases h;rfl
 | 1,r,h=>by cases h;rfl
 | 2,r,h=>by cases h;rfl
 | 3,r,h=>by cases h;rfl
 | 4,r,h=>by cases h;rfl
 | 5,r,h=>by cases h;rfl
 | 6,r,h=>by cases h;rfl
 | 7,r,h=>by cases h;rfl
 | 8,r,h=>by cases h;rfl
 | 9,r,h=>by cases h;rfl
 | 10,r,h=>by cases h;rfl
 | 11,r,h=>by cases h;rfl
 | n+12,r,h=>by simp [kindsT] at h
section
variable {t:Nat→Option FnE} {cp:RC→CodeE} {fuel:Nat} {H:Heap}
set_option maxRecDepth 20000 in
theorem rows_call (T:TCode t) (hw:H.wf) (d:Nat) (k:K):callP (evP cp t fuel (d+1)) (.func 74 []) [] H k=k (.slice H.n 0 12 13 0) (H.new (.cells rowsR)):=by
 rw [call_entry T.k37 rfl rfl]
 simp only [go_sem,↓op_app,reduceCtorEq,Nat.reduceAdd,Nat.reduceSub,Nat.reduceMul,Nat.reduceEqDiff,Nat.reduceLT,Nat.reduceDiv,Nat.reduceMod,Nat.reduceLeDiff,↓reduceIte,c37,hw]
 rfl
theorem may2_call (T:TCode t) (hw:H.wf) {s:Stp} (hk:s.k<18446744073709551616) (ha:s.a<18446744073709551616) (hb:s.b<18446744073709551616) (hd:s.d.length<9223372036854775808) (hfu:100<fuel) :
  ∃ G,Fresh H G ∧ ∀ (d:Nat) (k:K),callP (evP cp t fuel (d+2)) (.func 44 []) [.agg s.cells] H k=k (.bool (mayS s)) G:=by
 generalize hG1:H.new (.cells s.cells)=G1
 have f1:Fresh H G1:=by rw [← hG1];exact Fresh.new hw
 have g1n:G1.n=H.n+1:=by rw [← hG1,Heap.n_new]
 have g1b:G1.get H.n = .cells s.cells:=by rw [← hG1,Heap.get_new hw,if_pos rfl]
 have hw1:=f1.wf
 have a3:∀ {id:Nat} {x:R},allOne id s.cells x=x:=fun {id x}=>rfl
 have zc0:∀ {id:Nat} {f:V→R},nth id s.cells 0 f=f (.int 3 s.k):=fun {id f}=>rfl
 have zc1:∀ {id:Nat} {f:V→R},nth id s.cells 1 f=f (.int 3 s.a):=fun {id f}=>rfl
 have zc2:∀ {id:Nat} {f:V→R},nth id s.cells 2 f=f (.int 3 s.b):=fun {id f}=>rfl
 have zc3:∀ {id:Nat} {f:V→R},nth id s.cells 3 f=f (tv s.d):=fun {id f}=>rfl
 have l1:(evCF (.lt 9223372036854775808 18446744073709551616) s.k 0=true)=(9223372036854775808≤s.k):=by rw [cf_lt];apply propext;omega
 have l2:(evCF (.gt 9223372036854775808 18446744073709551616) s.k 11=true)=(11<s.k∧s.k<9223372036854775808):=by rw [cf_gt];apply propext;omega
 by_cases hk1:9223372036854775808≤s.k
 ·have hm:mayS s=false:=by
   unfold mayS
   rw [List.getElem?_eq_none (by show 12≤s.k;omega)]
  refine ⟨G1,f1,fun d k => ?_⟩
  rw [call_entry T.k22 rfl rfl,hm]
  simp only [go_sem,↓op_app,reduceCtorEq,Nat.reduceAdd,Nat.reduceSub,Nat.reduceMul,Nat.reduceEqDiff,Nat.reduceLT,Nat.reduceDiv,Nat.reduceMod,Nat.reduceLeDiff,↓reduceIte,c22,c22r1,hw,a3,hG1,g1b,zc0,l1,hk1]
 by_cases hk2:11<s.k
 ·have hm:mayS s=false:=by
   unfold mayS
   rw [List.getElem?_eq_none (by show 12≤s.k;omega)]
  have hk3:s.k<9223372036854775808:=by omega
  refine ⟨G1,f1,fun d k => ?_⟩
  rw [call_entry T.k22 rfl rfl,hm]
  simp only [go_sem,↓op_app,reduceCtorEq,Nat.reduceAdd,Nat.reduceSub,Nat.reduceMul,Nat.reduceEqDiff,Nat.reduceLT,Nat.reduceDiv,Nat.reduceMod,Nat.reduceLeDiff,↓reduceIte,c22,c22r1,hw,a3,hG1,g1b,zc0,l1,l2,hk1,hk2,hk3,and_self]
 obtain ⟨r,hr⟩:∃ r,kindsT[s.k]? = some r:=⟨_,List.getElem?_eq_getElem (show s.k<12 by omega)⟩
 have hm:mayS s=mayB r s:=by unfold mayS;rw [hr]
 have hrm:=List.mem_of_getElem? hr
 obtain ⟨k1,k2⟩:=kinds_ok r hrm
 have ra:r.a<18446744073709551616:=by omega
 have rb:r.b<18446744073709551616:=by
  rcases k2 with h | h
  ·rw [h];decide
  ·omega
 generalize hG2:G1.new (.cells rowsR)=G2
 have f2:Fresh H G2:=by rw [← hG2];exact f1.trans (Fresh.new hw1)
 have g2n:G2.n=H.n+1+1:=by rw [← hG2,Heap.n_new,g1n]
 have g2s:G2.get H.n = .cells s.cells:=by rw [← hG2,Heap.get_new hw1,if_neg (by omega)];exact g1b
 have g2r:G2.get (H.n+1) = .cells rowsR:=by rw [← hG2,Heap.get_new hw1,if_pos g1n.symm]
 have hw2:=f2.wf
 generalize hG3:G2.new (.cells [.str 0 0, .int 3 0, .int 3 0, .bool false])=G3
 have f3:Fresh H G3:=by rw [← hG3];exact f2.trans (Fresh.new hw2)
 have g3n:G3.n=H.n+1+1+1:=by rw [← hG3,Heap.n_new,g2n]
 have g3x:G3.get (H.n+1+1) = .cells [.str 0 0, .int 3 0, .int 3 0, .bool false]:=by rw [← hG3,Heap.get_new hw2,if_pos g2n.symm]
 have hw3:=f3.wf
 have g3s:G3.get H.n = .cells s.cells:=by rw [← hG3,Heap.get_new hw2,if_neg (by omega)];exact g2s
 have l3:H.n+1+1<H.n+1+1+1:=by omega
 generalize hG4:G3.put (H.n+1+1) (.cells r.rc)=G4
 have f4:Fresh H G4:=by rw [← hG4];exact f3.put (by omega) (by omega)
 have g4x:G4.get (H.n+1+1) = .cells r.rc:=by rw [← hG4,Heap.get_put hw3 (by omega),if_pos rfl]
 have g4s:G4.get H.n = .cells s.cells:=by rw [← hG4,Heap.get_put hw3 (by omega),if_neg (by omega)];exact g3s
 have n1:nn s.k:=by unfold nn;omega
 have n2:s.k<12:=by omega
 have n3:s.k<9223372036854775808:=by omega
 have e1:∀ {id:Nat} {f:List V→R},dropN id rowsR (s.k * 4) f=f (rowsR.drop (s.k * 4)):=fun {id f}=>dropN_eq (by rw [rowsR_len];omega)
 have e2:∀ {id:Nat} {f:List V→R},takeN id (rowsR.drop (s.k * 4)) 4 f=f r.rc:=fun {id f}=>by rw [takeN_eq (by rw [List.length_drop,rowsR_len];omega),rowsR_at s.k r hr]
 have e3:r.rc.length=4:=rfl
 have e4:∀ {id:Nat} {x:R},allOne id r.rc x=x:=fun {id x}=>rfl
 have e5:∀ {id:Nat} {f:List V→R},setAt id r.rc [.str 0 0, .int 3 0, .int 3 0, .bool false] 0 f=f r.rc:=fun {id f}=>rfl
 have zr:=fun {H:Heap} {d:Nat} {k:K} (h:H.wf)=>rows_call (cp:=cp) (fuel:=fuel) (H:=H) T h d k
 refine ⟨G4,f4,fun d k => ?_⟩
 rw [call_entry T.k22 rfl rfl,hm]
 simp only [go_sem,↓op_app,reduceCtorEq,Nat.reduceAdd,Nat.reduceSub,Nat.reduceMul,Nat.reduceEqDiff,Nat.reduceLT,Nat.reduceDiv,Nat.reduceMod,Nat.reduceLeDiff,↓reduceIte,c22,c22r1,hw,a3,hG1,g1b,zc0,l1,l2,hk1,hk2,false_and]
 simp only [go_sem,↓op_app,reduceCtorEq,Nat.reduceAdd,Nat.reduceSub,Nat.reduceMul,Nat.reduceEqDiff,Nat.reduceLT,Nat.reduceDiv,Nat.reduceMod,Nat.reduceLeDiff,↓reduceIte,c22r2,hw1,zr,hG2,g1n,g2s,g2r,zc0,n1,n2,n3,e1,e2,e3,e4,e5,hw2,g2n,hG3,g3x,hw3,g3n,l3,hG4]
 have b1:∀ {id:Nat} {f:V→R},nth id r.rc 1 f=f (.int 3 r.a):=fun {id f}=>rfl
 have b2:∀ {id:Nat} {f:V→R},nth id r.rc 2 f=f (.int 3 r.b):=fun {id f}=>rfl
 have b3:∀ {id:Nat} {f:V→R},nth id r.rc 3 f=f (.bool r.d):=fun {id f}=>rfl
 have z1:=fun {k:K}=>within2_call (cp:=cp) (fuel:=fuel) (H:=G4) T ha ra d k
 have z2:=fun {k:K}=>within2_call (cp:=cp) (fuel:=fuel) (H:=G4) T hb rb d k
 have z3:=fun {k:K}=>data_call (cp:=cp) (fuel:=fuel) (H:=G4) T hd hfu d k
 have hmb:mayB r s=((if r.d then dataB s.d else decide (s.d=[])) && within s.a r.a && within s.b r.b):=rfl
 rw [hmb]
 cases hA:within s.a r.a with
 | false=>
  rw [hA] at z1
  simp only [Bool.and_false,Bool.false_and]
  simp only [go_sem,↓op_app,reduceCtorEq,Nat.reduceAdd,Nat.reduceSub,Nat.reduceMul,Nat.reduceEqDiff,Nat.reduceLT,Nat.reduceDiv,Nat.reduceMod,Nat.reduceLeDiff,↓reduceIte,c22r3,c22r4,g4x,g4s,↓zc1,↓b1,↓z1,↓isB_tup]
 | true=>
  rw [hA] at z1
  cases hB:within s.b r.b with
  | false=>
   rw [hB] at z2
   simp only [Bool.and_false]
   simp only [go_sem,↓op_app,reduceCtorEq,Nat.reduceAdd,Nat.reduceSub,Nat.reduceMul,Nat.reduceEqDiff,Nat.reduceLT,Nat.reduceDiv,Nat.reduceMod,Nat.reduceLeDiff,↓reduceIte,c22r3,c22r4,g4x,g4s,↓zc1,↓zc2,↓b1,↓b2,↓z1,↓z2,↓isB_tup]
  | true=>
   rw [hB] at z2
   simp only [Bool.and_true]
   cases hD:r.d with
   | true=>
    rw [hD] at b3
    rw [if_pos rfl]
    cases hz:dataB s.d <;> rw [hz] at z3 <;> simp only [go_sem,↓op_app,reduceCtorEq,Nat.reduceAdd,Nat.reduceSub,Nat.reduceMul,Nat.reduceEqDiff,Nat.reduceLT,Nat.reduceDiv,Nat.reduceMod,Nat.reduceLeDiff,↓reduceIte,c22r3,c22r4,g4x,g4s,↓zc1,↓zc2,↓zc3,↓b1,↓b2,↓b3,↓z1,↓z2,↓z3,↓isB_tup,isOne_tv]
   | false=>
    rw [hD] at b3
    rw [if_neg (by decide)]
    by_cases h0:s.d=[]
    ·have h0':=eq_true h0
     simp only [go_sem,↓op_app,reduceCtorEq,Nat.reduceAdd,Nat.reduceSub,Nat.reduceMul,Nat.reduceEqDiff,Nat.reduceLT,Nat.reduceDiv,Nat.reduceMod,Nat.reduceLeDiff,↓reduceIte,c22r3,c22r4,g4x,g4s,↓zc1,↓zc2,↓zc3,↓b1,↓b2,↓b3,↓z1,↓z2,↓isB_tup,isOne_tv,vStr_tv,len_enc_nil,h0',decide_true]
    ·have h0':=eq_false h0
     simp only [go_sem,↓op_app,reduceCtorEq,Nat.reduceAdd,Nat.reduceSub,Nat.reduceMul,Nat.reduceEqDiff,Nat.reduceLT,Nat.reduceDiv,Nat.reduceMod,Nat.reduceLeDiff,↓reduceIte,c22r3,c22r4,g4x,g4s,↓zc1,↓zc2,↓zc3,↓b1,↓b2,↓b3,↓z1,↓z2,↓isB_tup,isOne_tv,vStr_tv,len_enc_nil,h0',decide_false]
end
end Go.Ev
end
section
namespace Go.Ev
theorem tv_cat (a b:List UInt8):∃ c,c=a ++ b∧V.str (a.length+b.length) (enc a+enc b * 256 ^ a.length)=tv c:=⟨_,rfl,tv_append a b⟩
theorem tv_blank (a:List UInt8):∃ c,c=a ++ [32]∧V.str (a.length+1) (enc a+32 * 256 ^ a.length)=tv c:=⟨_,rfl,tv_append a [32]⟩
section
variable {t:Nat→Option FnE} {cp:RC→CodeE} {fuel:Nat} {H:Heap}
theorem line_r4 {G:Heap} {s:Stp} {r:KRow} {Bs Br:Nat} (gs:G.get Bs = .cells s.cells) (gr:G.get Br = .cells r.rc) (D:MayD r s) {x3:List UInt8} (hx:x3.length≤20) (ph:Phi) (kn:KE) (kx:Nat→KE) (e:Env) (x:R)
  (h1:pget ⟨.i0, .i0, .i1⟩ e = .ptr Bs 0) (h3:pget ⟨.i0, .i0, .i3⟩ e = .ptr Br 0) (h4:pget ⟨.i0, .i0, .i4⟩ e=tv x3) (hk:∀ e',pget ⟨.i0, .i0, .i2⟩ e'=tv (x3 ++ if r.d=true then 32 :: s.d else [])→kx 0 e' G=x):evC c23r4 fuel ph e G kn kx=x:=by
 have zc3:∀ {id:Nat} {f:V→R},nth id s.cells 3 f=f (tv s.d):=fun {id f}=>rfl
 have b3:∀ {id:Nat} {f:V→R},nth id r.rc 3 f=f (.bool r.d):=fun {id f}=>rfl
 cases hd:r.d with
 | true=>
  rw [hd] at b3 hk
  have hl:=(D.d hd).2.2
  obtain ⟨x4,hx4,q4⟩:=tv_blank x3
  obtain ⟨x5,hx5,q5⟩:=tv_cat x4 s.d
  have l4:x4.length≤21:=by rw [hx4];simp;omega
  have s1:x3.length+1<9223372036854775808:=by omega
  have s2:x4.length+s.d.length<9223372036854775808:=by omega
  simp only [go_sem,↓op_app,reduceCtorEq,Nat.reduceAdd,Nat.reduceSub,Nat.reduceMul,Nat.reduceEqDiff,Nat.reduceLT,Nat.reduceDiv,Nat.reduceMod,Nat.reduceLeDiff,↓reduceIte,c23r4,c23r5,c23r6,h1,h3,h4,gs,gr,↓b3,↓zc3,isOne_tv,vStr_tv,q4,q5,s1,s2]
  refine hk _ ?_
  simp only [go_sem,↓op_app,reduceCtorEq,Nat.reduceAdd,Nat.reduceSub,Nat.reduceMul,Nat.reduceEqDiff,Nat.reduceLT,Nat.reduceDiv,Nat.reduceMod,Nat.reduceLeDiff,↓reduceIte]
  rw [hx5,hx4,List.append_assoc]
  rfl
 | false=>
  rw [hd] at b3 hk
  simp only [go_sem,↓op_app,reduceCtorEq,Nat.reduceAdd,Nat.reduceSub,Nat.reduceMul,Nat.reduceEqDiff,Nat.reduceLT,Nat.reduceDiv,Nat.reduceMod,Nat.reduceLeDiff,↓reduceIte,c23r4,c23r5,c23r6,h1,h3,h4,gs,gr,↓b3,isOne_tv]
  refine hk _ ?_
  simp only [go_sem,↓op_app,reduceCtorEq,Nat.reduceAdd,Nat.reduceSub,Nat.reduceMul,Nat.reduceEqDiff,Nat.reduceLT,Nat.reduceDiv,Nat.reduceMod,Nat.reduceLeDiff,↓reduceIte,List.append_nil]
theorem line_tail (T:TCode t) {G:Heap} (hw:G.wf) {s:Stp} {r:KRow} {Bs Br:Nat} (gs:G.get Bs = .cells s.cells) (gr:G.get Br = .cells r.rc) (hBs:Bs<G.n) (hBr:Br<G.n) (hrm:r ∈ kindsT) (D:MayD r s) {x2:List UInt8} (hx:x2.length≤12) :
  ∃ G',Fresh G G' ∧ ∀ (d:Nat) (kn:KE) (kx:Nat→KE) (e:Env) (x:R),pget ⟨.i0, .i0, .i1⟩ e = .ptr Bs 0→pget ⟨.i0, .i0, .i3⟩ e = .ptr Br 0→pget ⟨.i0, .i0, .i4⟩ e=tv x2→(∀ e',pget ⟨.i0, .i0, .i2⟩ e'=tv (x2 ++ (if r.b=neg1 then [] else 32 :: decD s.b) ++ if r.d=true then 32 :: s.d else [])→kx 0 e' G'=x)→evC c23r3 fuel (evP cp t fuel (d+5)) e G kn kx=x:=by
 obtain ⟨k1,k2⟩:=kinds_ok r hrm
 have zc2:∀ {id:Nat} {f:V→R},nth id s.cells 2 f=f (.int 3 s.b):=fun {id f}=>rfl
 have b2:∀ {id:Nat} {f:V→R},nth id r.rc 2 f=f (.int 3 r.b):=fun {id f}=>rfl
 by_cases hb:r.b=neg1
 ·have l1:(evCF (.ge 9223372036854775808 18446744073709551616) r.b 0=true)=False:=by rw [hb];decide
  refine ⟨G,Fresh.refl hw,fun d kn kx e x h1 h3 h4 hk => ?_⟩
  rw [if_pos hb,List.append_nil] at hk
  simp only [go_sem,↓op_app,reduceCtorEq,Nat.reduceAdd,Nat.reduceSub,Nat.reduceMul,Nat.reduceEqDiff,Nat.reduceLT,Nat.reduceDiv,Nat.reduceMod,Nat.reduceLeDiff,↓reduceIte,c23r3,h1,h3,h4,gs,gr,↓b2,l1]
  refine line_r4 gs gr D (by omega) _ _ _ _ x ?_ ?_ ?_ hk <;> simp only [go_sem,reduceCtorEq,↓reduceIte,h1,h3,h4]
 ·have hb2:r.b<10000:=k2.resolve_left hb
  have hbs:=D.b hb
  have l1:(evCF (.ge 9223372036854775808 18446744073709551616) r.b 0=true)=True:=by
   rw [ge0 (by omega)]
   exact eq_true (by omega)
  obtain ⟨G1,f1,z1⟩:=digits_call (cp:=cp) (fuel:=fuel) T 3 s.b (by omega) hbs G hw
  obtain ⟨x3,hx3,q3⟩:=tv_blank x2
  obtain ⟨x4,hx4,q4⟩:=tv_cat x3 (decD s.b)
  have lb:=decD_len s.b
  have l3:x3.length≤13:=by rw [hx3];simp;omega
  have l4:x4.length≤17:=by rw [hx4];simp;omega
  have s1:x2.length+1<9223372036854775808:=by omega
  have s2:x3.length+(decD s.b).length<9223372036854775808:=by omega
  refine ⟨G1,f1,fun d kn kx e x h1 h3 h4 hk => ?_⟩
  rw [if_neg hb] at hk
  have z1':∀ {k:K},callP (evP cp t fuel (d+5)) (.func 80 []) [.int 3 s.b] G k=k (tv (decD s.b)) G1:=fun {k}=>z1 (d+1) k
  simp only [go_sem,↓op_app,reduceCtorEq,Nat.reduceAdd,Nat.reduceSub,Nat.reduceMul,Nat.reduceEqDiff,Nat.reduceLT,Nat.reduceDiv,Nat.reduceMod,Nat.reduceLeDiff,↓reduceIte,c23r3,h1,h3,h4,gs,gr,↓b2,↓zc2,l1,vStr_tv,q3,q4,s1,s2,↓z1']
  refine line_r4 ((f1.same _ hBs).trans gs) ((f1.same _ hBr).trans gr) D (x3:=x4) (by omega) _ _ _ _ x ?_ ?_ ?_ ?_
  ·simp only [go_sem,reduceCtorEq,↓reduceIte,h1]
  ·simp only [go_sem,reduceCtorEq,↓reduceIte,h3]
  ·simp only [go_sem,reduceCtorEq,↓reduceIte]
  ·intro e' he
   refine hk e' ?_
   rw [he,hx4,hx3]
   simp only [List.append_assoc,List.cons_append,List.nil_append]
theorem line_call (T:TCode t) (hw:H.wf) {s:Stp} (hm:mayS s=true) :
  ∃ G,Fresh H G ∧ ∀ (d:Nat) (k:K),callP (evP cp t fuel (d+6)) (.func 46 []) [.agg s.cells] H k=k (tv (bodyOf s)) G:=by
 obtain ⟨r,hr,hrm,hmb,D⟩:=mayS_row hm
 have hk12:s.k<12:=by
  rcases Nat.lt_or_ge s.k 12 with h | h
  ·exact h
  ·rw [List.getElem?_eq_none (by show 12≤s.k;exact h)] at hr;cases hr
 obtain ⟨k1,k2⟩:=kinds_ok r hrm
 have rb:r.b<18446744073709551616:=by
  rcases k2 with h | h
  ·rw [h];decide
  ·omega
 have lw:=kinds_len r hrm
 generalize hG1:H.new (.cells s.cells)=G1
 have f1:Fresh H G1:=by rw [← hG1];exact Fresh.new hw
 have g1n:G1.n=H.n+1:=by rw [← hG1,Heap.n_new]
 have g1b:G1.get H.n = .cells s.cells:=by rw [← hG1,Heap.get_new hw,if_pos rfl]
 have hw1:=f1.wf
 generalize hG2:G1.new (.cells rowsR)=G2
 have f2:Fresh H G2:=by rw [← hG2];exact f1.trans (Fresh.new hw1)
 have g2n:G2.n=H.n+1+1:=by rw [← hG2,Heap.n_new,g1n]
 have g2s:G2.get H.n = .cells s.cells:=by rw [← hG2,Heap.get_new hw1,if_neg (by omega)];exact g1b
 have g2r:G2.get (H.n+1) = .cells rowsR:=by rw [← hG2,Heap.get_new hw1,if_pos g1n.symm]
 have hw2:=f2.wf
 generalize hG3:G2.new (.cells [.str 0 0, .int 3 0, .int 3 0, .bool false])=G3
 have f3:Fresh H G3:=by rw [← hG3];exact f2.trans (Fresh.new hw2)
 have g3n:G3.n=H.n+1+1+1:=by rw [← hG3,Heap.n_new,g2n]
 have g3x:G3.get (H.n+1+1) = .cells [.str 0 0, .int 3 0, .int 3 0, .bool false]:=by rw [← hG3,Heap.get_new hw2,if_pos g2n.symm]
 have hw3:=f3.wf
 have g3s:G3.get H.n = .cells s.cells:=by rw [← hG3,Heap.get_new hw2,if_neg (by omega)];exact g2s
 have l3:H.n+1+1<H.n+1+1+1:=by omega
 generalize hG4:G3.put (H.n+1+1) (.cells r.rc)=G4
 have f4:Fresh H G4:=by rw [← hG4];exact f3.put (by omega) (by omega)
 have g4n:G4.n=H.n+1+1+1:=by rw [← hG4,Heap.n_put,g3n]
 have g4x:G4.get (H.n+1+1) = .cells r.rc:=by rw [← hG4,Heap.get_put hw3 (by omega),if_pos rfl]
 have g4s:G4.get H.n = .cells s.cells:=by rw [← hG4,Heap.get_put hw3 (by omega),if_neg (by omega)];exact g3s
 have hw4:=f4.wf
 obtain ⟨Gm,fm,zm⟩:=digits_call (cp:=cp) (fuel:=fuel) T 3 s.a (by have:=D.a;omega) D.a G4.mark (by rw [Heap.wf_mark];exact hw4)
 obtain ⟨f5,le5⟩:=fm.unmark
 generalize hG5:Gm.unmark G4.wlo=G5 at f5
 have g5x:G5.get (H.n+1+1) = .cells r.rc:=(f5.same _ (by omega)).trans g4x
 have g5s:G5.get H.n = .cells s.cells:=(f5.same _ (by omega)).trans g4s
 have hw5:=f5.wf
 have a3:∀ {id:Nat} {x:R},allOne id s.cells x=x:=fun {id x}=>rfl
 have zc0:∀ {id:Nat} {f:V→R},nth id s.cells 0 f=f (.int 3 s.k):=fun {id f}=>rfl
 have zc1:∀ {id:Nat} {f:V→R},nth id s.cells 1 f=f (.int 3 s.a):=fun {id f}=>rfl
 have zc2:∀ {id:Nat} {f:V→R},nth id s.cells 2 f=f (.int 3 s.b):=fun {id f}=>rfl
 have zc3:∀ {id:Nat} {f:V→R},nth id s.cells 3 f=f (tv s.d):=fun {id f}=>rfl
 have b0:∀ {id:Nat} {f:V→R},nth id r.rc 0 f=f (tv r.w):=fun {id f}=>rfl
 have b2:∀ {id:Nat} {f:V→R},nth id r.rc 2 f=f (.int 3 r.b):=fun {id f}=>rfl
 have b3:∀ {id:Nat} {f:V→R},nth id r.rc 3 f=f (.bool r.d):=fun {id f}=>rfl
 have n1:nn s.k:=by unfold nn;omega
 have n3:s.k<9223372036854775808:=by omega
 have e1:∀ {id:Nat} {f:List V→R},dropN id rowsR (s.k * 4) f=f (rowsR.drop (s.k * 4)):=fun {id f}=>dropN_eq (by rw [rowsR_len];omega)
 have e2:∀ {id:Nat} {f:List V→R},takeN id (rowsR.drop (s.k * 4)) 4 f=f r.rc:=fun {id f}=>by rw [takeN_eq (by rw [List.length_drop,rowsR_len];omega),rowsR_at s.k r hr]
 have e3:r.rc.length=4:=rfl
 have e4:∀ {id:Nat} {x:R},allOne id r.rc x=x:=fun {id x}=>rfl
 have e5:∀ {id:Nat} {f:List V→R},setAt id r.rc [.str 0 0, .int 3 0, .int 3 0, .bool false] 0 f=f r.rc:=fun {id f}=>rfl
 have zr:=fun {H:Heap} {d:Nat} {k:K} (h:H.wf)=>rows_call (cp:=cp) (fuel:=fuel) (H:=H) T h d k
 obtain ⟨x1,hx1,q1⟩:=tv_blank r.w
 obtain ⟨x2,hx2,q2⟩:=tv_cat x1 (decD s.a)
 have la:=decD_len s.a
 have lx1:x1.length≤8:=by rw [hx1];simp;omega
 have lx2:x2.length≤12:=by rw [hx2];simp;omega
 have s1:r.w.length+1<9223372036854775808:=by omega
 have s2:x1.length+(decD s.a).length<9223372036854775808:=by omega
 obtain ⟨G6,f6,z6⟩:=line_tail (cp:=cp) (fuel:=fuel) T hw5 g5s g5x (by have:=f5.n;omega) (by have:=f5.n;omega) hrm D (x2:=x2) (by omega)
 refine ⟨G6,(f4.trans f5).trans f6,fun d k => ?_⟩
 have zm':∀ {k:K},callP (evP cp t fuel (d+5)) (.func 80 []) [.int 3 s.a] G4.mark k=k (tv (decD s.a)) Gm:=fun {k}=>zm (d+1) k
 rw [call_entry T.k23 rfl rfl]
 simp only [go_sem,↓op_app,reduceCtorEq,Nat.reduceAdd,Nat.reduceSub,Nat.reduceMul,Nat.reduceEqDiff,Nat.reduceLT,Nat.reduceDiv,Nat.reduceMod,Nat.reduceLeDiff,↓reduceIte,c23,hw,a3,hG1]
 simp only [go_sem,↓op_app,reduceCtorEq,Nat.reduceAdd,Nat.reduceSub,Nat.reduceMul,Nat.reduceEqDiff,Nat.reduceLT,Nat.reduceDiv,Nat.reduceMod,Nat.reduceLeDiff,↓reduceIte,c23r1,hw1,zr,hG2,g1n,g1b,g2s,g2r,↓zc0,n1,hk12,n3,↓e1,↓e2,e3,e4,↓e5,hw2,g2n,hG3,g3x,hw3,g3n,l3,hG4]
 simp only [go_sem,↓op_app,reduceCtorEq,Nat.reduceAdd,Nat.reduceSub,Nat.reduceMul,Nat.reduceEqDiff,Nat.reduceLT,Nat.reduceDiv,Nat.reduceMod,Nat.reduceLeDiff,↓reduceIte,c23r2,g4x,g4s,↓b0,↓zc1,isOne_tv,vStr_tv,q1,q2,s1,s2,↓zm',le5,hG5]
 refine z6 d _ _ _ _ ?_ ?_ ?_ fun e' he => ?_
 ·simp only [go_sem,reduceCtorEq,↓reduceIte]
 ·simp only [go_sem,reduceCtorEq,↓reduceIte]
 ·simp only [go_sem,reduceCtorEq,↓reduceIte]
 ·simp only [go_sem,↓op_app,reduceCtorEq,Nat.reduceAdd,Nat.reduceSub,Nat.reduceMul,Nat.reduceEqDiff,Nat.reduceLT,Nat.reduceDiv,Nat.reduceMod,Nat.reduceLeDiff,↓reduceIte,he]
  have hx:bodyOf s=x2 ++ (if r.b=neg1 then [] else 32 :: decD s.b) ++ (if r.d=true then 32 :: s.d else []):=by
   simp only [bodyOf,hr]
   rw [hx2,hx1]
   simp only [List.append_assoc,List.cons_append,List.nil_append]
  rw [hx]
end
end Go.Ev
end
section
namespace Go.Ev
section
variable {t:Nat→Option FnE} {cp:RC→CodeE} {fuel:Nat} {H:Heap}
theorem rprint_loop (T:TCode t) (hfu:1000001<fuel) {v:V} {l:List Stp} (hl:StAt H v l) (hn:l.length≤4096) (hok:∀ s ∈ l,StOK s) :
  ∀ (m i:Nat) (G:Heap),i+m=l.length→Fresh H G→(∀ s ∈ l.take i,mayS s=true) →
  ∃ G',Fresh H G'∧(((∀ s ∈ l,mayS s=true) ∧ ∀ (d:Nat) (kx:Nat→KE) (r:Nat) (e:Env),m<r→pget ⟨.i0, .i0, .i0⟩ e=v→pget ⟨.i0, .i0, .i4⟩ e=tv ((l.take i).flatMap lineOf)→pget ⟨.i0, .i0, .i5⟩ e = .int 3 i →
    ∀ x:R,(∀ e',pget ⟨.i0, .i0, .i4⟩ e'=tv (l.flatMap lineOf)→kx 1 e' G'=x)→evL c9l0 fuel (evP cp t fuel (d+6)) kx r e G=x) ∨
   ((∃ s ∈ l,mayS s≠true) ∧ ∀ (d:Nat) (kx:Nat→KE) (r:Nat) (e:Env),m<r→pget ⟨.i0, .i0, .i0⟩ e=v→pget ⟨.i0, .i0, .i4⟩ e=tv ((l.take i).flatMap lineOf)→pget ⟨.i0, .i0, .i5⟩ e = .int 3 i →
    ∀ x:R,(∀ e',pget ⟨.i0, .i0, .i2⟩ e' = .str 0 0→pget ⟨.i0, .i0, .i3⟩ e' = .int 3 2→kx 0 e' G'=x)→evL c9l0 fuel (evP cp t fuel (d+6)) kx r e G=x)):=by
 have hs:=fun {id:Nat} {f:Nat→R}=>hl.sn (id:=id) (f:=f)
 have e8:l.length<9223372036854775808:=by omega
 have e2:nn l.length:=e8
 intro m
 induction m with
 | zero=>
  intro i G hi f hm
  obtain rfl:i=l.length:=by omega
  refine ⟨G,f,Or.inl ⟨by rw [List.take_length] at hm;exact hm,fun d kx r e hr h0 h4 h5 x hx => ?_⟩⟩
  obtain ⟨r,rfl⟩:∃ q,r=q+1:=⟨r-1,by omega⟩
  have e1:¬ l.length<l.length:=by omega
  rw [evL_succ]
  simp only [go_sem,↓op_app,reduceCtorEq,Nat.reduceAdd,Nat.reduceSub,Nat.reduceMul,Nat.reduceEqDiff,Nat.reduceLT,Nat.reduceDiv,Nat.reduceMod,Nat.reduceLeDiff,↓reduceIte,c9l0,h0,h5,↓hs,e1,e2,e8]
  rw [List.take_length] at h4
  exact hx _ (by simp only [go_sem,reduceCtorEq,↓reduceIte,h4])
 | succ m ih=>
  intro i G hi f hm
  have hw:=f.wf
  have hlt:i<l.length:=by omega
  obtain ⟨s,g1,hmem,htk⟩:∃ s,l[i]? = some s∧s ∈ l∧l.take (i+1)=l.take i ++ [s]:=⟨l[i],List.getElem?_eq_getElem hlt,List.getElem_mem hlt,List.take_succ_eq_append_getElem hlt⟩
  obtain ⟨b,o,c,z,hv,zr1⟩:=(hl.fresh f).four g1
  have e1:nn i:=by unfold nn;omega
  have e3:i<9223372036854775808:=by omega
  have e9:(i+1) % 18446744073709551616=i+1:=by omega
  have O:=hok s hmem
  obtain ⟨G1,f1,z1⟩:=may2_call (cp:=cp) (fuel:=fuel) T hw O.k O.a O.b O.d (by omega)
  have hw1:=f1.wf
  obtain ⟨b',o',c',z',hv',zr2⟩:=(hl.fresh (f.trans f1)).four g1
  rw [hv] at hv'
  cases hv'
  have t1:List.take 4 s.cells=s.cells:=rfl
  by_cases hm1:mayS s=true
  ·rw [hm1] at z1
   obtain ⟨G2,f2,z2⟩:=line_call (cp:=cp) (fuel:=fuel) T hw1 hm1
   have hmn:∀ s' ∈ l.take (i+1),mayS s'=true:=fun s' h'=>by
    rw [htk] at h'
    rcases List.mem_append.1 h' with h' | h'
    ·exact hm s' h'
    ·rw [List.mem_singleton] at h';subst h';exact hm1
   obtain ⟨G',f',z3⟩:=ih (i+1) G2 (by omega) ((f.trans f1).trans f2) hmn
   have hlen:=lines_lenP _ hm
   rw [List.length_take,Nat.min_eq_left (by omega)] at hlen
   have hbl:(bodyOf s).length≤100:=by
    have h1:=lineOf_len hm1
    rw [lineOf_body hm1] at h1
    simp at h1;omega
   have hout:(l.take (i+1)).flatMap lineOf=(l.take i).flatMap lineOf ++ bodyOf s ++ [10]:=by
    rw [htk,List.flatMap_append,List.flatMap_cons,List.flatMap_nil,List.append_nil,lineOf_body hm1,List.append_assoc]
   rw [hout] at z3
   generalize (l.take i).flatMap lineOf=x0 at hlen z3 ⊢
   obtain ⟨x1,hx1,q1⟩:=tv_cat x0 (bodyOf s)
   obtain ⟨x2,hx2,q2⟩:∃ c,c=x1 ++ [10]∧V.str (x1.length+1) (enc x1+10 * 256 ^ x1.length)=tv c:=⟨_,rfl,tv_append x1 [10]⟩
   have l1:x1.length≤500000:=by rw [hx1,List.length_append];omega
   have s1:x0.length+(bodyOf s).length<9223372036854775808:=by omega
   have s2:x1.length+1<9223372036854775808:=by omega
   rw [← hx1,← hx2] at z3
   have run:∀ (d:Nat) (kx:Nat→KE) (r:Nat) (e:Env),pget ⟨.i0, .i0, .i0⟩ e=v→pget ⟨.i0, .i0, .i4⟩ e=tv x0→pget ⟨.i0, .i0, .i5⟩ e = .int 3 i → ∀ x:R,
     (∀ e',pget ⟨.i0, .i0, .i0⟩ e'=v→pget ⟨.i0, .i0, .i4⟩ e'=tv x2→pget ⟨.i0, .i0, .i5⟩ e' = .int 3 (i+1)→evL c9l0 fuel (evP cp t fuel (d+6)) kx r e' G2=x)→evL c9l0 fuel (evP cp t fuel (d+6)) kx (r+1) e G=x:=fun d kx r e h0 h4 h5 x hx=>by
    have z1':∀ {k:K},callP (evP cp t fuel (d+6)) (.func 44 []) [.agg s.cells] G k=k (.bool true) G1:=fun {k}=>z1 (d+4) k
    have z2':∀ {k:K},callP (evP cp t fuel (d+6)) (.func 46 []) [.agg s.cells] G1 k=k (tv (bodyOf s)) G2:=fun {k}=>z2 d k
    rw [hv] at h0
    rw [evL_succ]
    simp only [go_sem,↓op_app,reduceCtorEq,Nat.reduceAdd,Nat.reduceSub,Nat.reduceMul,Nat.reduceEqDiff,Nat.reduceLT,Nat.reduceDiv,Nat.reduceMod,Nat.reduceLeDiff,↓reduceIte,c9l0,h0,h4,h5,hlt,e1,e2,e3,e8,e9,↓zr1,↓zr2,↓z1',↓z2',vStr_tv,q1,q2,s1,s2]
    refine hx _ ?_ ?_ ?_ <;> simp only [go_sem,↓op_app,reduceCtorEq,Nat.reduceAdd,Nat.reduceSub,Nat.reduceMul,Nat.reduceEqDiff,Nat.reduceLT,Nat.reduceDiv,Nat.reduceMod,Nat.reduceLeDiff,↓reduceIte,h0,hv]
   rcases z3 with ⟨a1,a2⟩ | ⟨a1,a2⟩
   ·refine ⟨G',f',Or.inl ⟨a1,fun d kx r e hr h0 h4 h5 x hx => ?_⟩⟩
    obtain ⟨r,rfl⟩:∃ q,r=q+1:=⟨r-1,by omega⟩
    exact run d kx r e h0 h4 h5 x fun e' p0 p4 p5=>a2 d kx r e' (by omega) p0 p4 p5 x hx
   ·refine ⟨G',f',Or.inr ⟨a1,fun d kx r e hr h0 h4 h5 x hx => ?_⟩⟩
    obtain ⟨r,rfl⟩:∃ q,r=q+1:=⟨r-1,by omega⟩
    exact run d kx r e h0 h4 h5 x fun e' p0 p4 p5=>a2 d kx r e' (by omega) p0 p4 p5 x hx
  ·have hm2:mayS s=false:=by simpa using hm1
   rw [hm2] at z1
   refine ⟨G1,f.trans f1,Or.inr ⟨⟨s,hmem,hm1⟩,fun d kx r e hr h0 h4 h5 x hx => ?_⟩⟩
   obtain ⟨r,rfl⟩:∃ q,r=q+1:=⟨r-1,by omega⟩
   have z1':∀ {k:K},callP (evP cp t fuel (d+6)) (.func 44 []) [.agg s.cells] G k=k (.bool false) G1:=fun {k}=>z1 (d+4) k
   rw [hv] at h0
   rw [evL_succ]
   simp only [go_sem,↓op_app,reduceCtorEq,Nat.reduceAdd,Nat.reduceSub,Nat.reduceMul,Nat.reduceEqDiff,Nat.reduceLT,Nat.reduceDiv,Nat.reduceMod,Nat.reduceLeDiff,↓reduceIte,c9l0,h0,h4,h5,hlt,e1,e2,e3,e8,e9,↓zr1,↓z1']
   exact hx _ (by simp only [go_sem,reduceCtorEq,↓reduceIte]) (by simp only [go_sem,reduceCtorEq,↓reduceIte])
theorem rprint_call (T:TCode t) (hw:H.wf) (hfu:1000001<fuel) {v:V} {l:List Stp} (hl:StAt H v l) (hn:l.length≤4096) (hok:∀ s ∈ l,StOK s) :
  ∃ G,Fresh H G ∧ ∀ (d:Nat) (k:K),callP (evP cp t fuel (d+7)) (.func 18 []) [v] H k=k (.tup [tv (printP l).1, .int 3 (printP l).2]) G:=by
 have hs:=fun {id:Nat} {f:Nat→R}=>hl.sn (id:=id) (f:=f)
 have e8:l.length<9223372036854775808:=by omega
 have e2:nn l.length:=e8
 have e3:¬ 4096<l.length:=by omega
 obtain ⟨G,f,h⟩:=rprint_loop (cp:=cp) (fuel:=fuel) T hfu hl hn hok l.length 0 H (by omega) (Fresh.refl hw) (by simp)
 refine ⟨G,f,fun d k => ?_⟩
 rw [call_entry T.k9 rfl rfl]
 simp only [go_sem,↓op_app,reduceCtorEq,Nat.reduceAdd,Nat.reduceSub,Nat.reduceMul,Nat.reduceEqDiff,Nat.reduceLT,Nat.reduceDiv,Nat.reduceMod,Nat.reduceLeDiff,↓reduceIte,c9,↓hs,e8,e2,e3]
 rcases h with ⟨h1,h2⟩ | ⟨h1,h2⟩
 ·rw [printP_ok h1 hn]
  refine h2 d _ fuel _ (by omega) ?_ ?_ ?_ _ fun e' q4 => ?_
  ·simp only [go_sem,reduceCtorEq,↓reduceIte]
  ·simp only [go_sem,↓op_app,reduceCtorEq,Nat.reduceAdd,Nat.reduceSub,Nat.reduceMul,Nat.reduceEqDiff,Nat.reduceLT,Nat.reduceDiv,Nat.reduceMod,Nat.reduceLeDiff,↓reduceIte,List.flatMap_nil,tv_nil]
  ·simp only [go_sem,reduceCtorEq,↓reduceIte]
  ·simp only [go_sem,reduceCtorEq,↓reduceIte,q4]
 ·rw [printP_bad h1 hn]
  refine h2 d _ fuel _ (by omega) ?_ ?_ ?_ _ fun e' q2 q3 => ?_
  ·simp only [go_sem,reduceCtorEq,↓reduceIte]
  ·simp only [go_sem,↓op_app,reduceCtorEq,Nat.reduceAdd,Nat.reduceSub,Nat.reduceMul,Nat.reduceEqDiff,Nat.reduceLT,Nat.reduceDiv,Nat.reduceMod,Nat.reduceLeDiff,↓reduceIte,List.flatMap_nil,tv_nil]
  ·simp only [go_sem,reduceCtorEq,↓reduceIte]
  ·simp only [go_sem,↓op_app,reduceCtorEq,Nat.reduceAdd,Nat.reduceSub,Nat.reduceMul,Nat.reduceEqDiff,Nat.reduceLT,Nat.reduceDiv,Nat.reduceMod,Nat.reduceLeDiff,↓reduceIte,q2,q3,tv_nil]
end
end Go.Ev
end
section
namespace Go.Ev
theorem Gr.ws {H G:Heap} {v:V} {l:List (List UInt8)} (h:Gr H G v 1 l.length (l.map tv)):WS G v l:=by
 obtain ⟨h1,h2,h3⟩:=h
 rcases h3 with ⟨rfl,h4⟩ | ⟨b,c,s,rfl,h4,h5,h6,h7,h8⟩
 ·exact Or.inl ⟨Or.inl rfl,List.eq_nil_of_length_eq_zero h4⟩
 ·refine Or.inr ⟨fun h=>by rw [h] at h4;simp at h4,b,0,c,s,_,rfl,by omega,h6,h8,fun i w hi => ?_⟩
  rw [Nat.zero_add,List.getElem?_map,hi]
  rfl
section
variable {t:Nat→Option FnE} {cp:RC→CodeE} {fuel:Nat} {H:Heap}
theorem rwords_loop (T:TCode t) {s:List UInt8} (hs:s.length≤900000) :
  ∀ (m i:Nat) (G:Heap) (vo:V) (acc:List (List UInt8)) (cur:List UInt8),i+m=s.length→Fresh H G→Gr H G vo 1 acc.length (acc.map tv)→fieldsP s=acc ++ fieldsGo (s.drop i) cur→cur.length≤i→acc.length≤i →
  ∃ G' vo' acc' cur',Fresh H G'∧Gr H G' vo' 1 acc'.length (acc'.map tv)∧fieldsP s=acc' ++ fieldsGo [] cur'∧cur'.length≤s.length∧acc'.length≤s.length ∧ ∀ (d:Nat) (kx:Nat→KE) (r:Nat) (e:Env),m<r→pget ⟨.i0, .i0, .i0⟩ e=tv s→pget ⟨.i0, .i0, .i3⟩ e=vo→pget ⟨.i0, .i0, .i4⟩ e=tv cur→pget ⟨.i0, .i0, .i5⟩ e = .int 3 i →
   ∀ x:R,(∀ e',pget ⟨.i0, .i0, .i3⟩ e'=vo'→pget ⟨.i0, .i0, .i4⟩ e'=tv cur'→kx 1 e' G'=x)→evL c28l0 fuel (evP cp t fuel d) kx r e G=x:=by
 intro m
 induction m with
 | zero=>
  intro i G vo acc cur hi f hv hF hc ha
  obtain rfl:i=s.length:=by omega
  rw [List.drop_length] at hF
  refine ⟨G,vo,acc,cur,f,hv,hF,hc,ha,fun d kx r e hr h0 h3 h4 h5 x hx => ?_⟩
  obtain ⟨r,rfl⟩:∃ q,r=q+1:=⟨r-1,by omega⟩
  have e1:nn s.length:=by unfold nn;omega
  have e2:¬ s.length<s.length:=by omega
  have e3:s.length<9223372036854775808:=by omega
  rw [evL_succ]
  simp only [go_sem,↓op_app,reduceCtorEq,Nat.reduceAdd,Nat.reduceSub,Nat.reduceMul,Nat.reduceEqDiff,Nat.reduceLT,Nat.reduceDiv,Nat.reduceMod,Nat.reduceLeDiff,↓reduceIte,c28l0,h0,h5,vStr_tv,e1,e2,e3]
  refine hx _ ?_ ?_ <;> simp only [go_sem,reduceCtorEq,↓reduceIte,h3,h4]
 | succ m ih=>
  intro i G vo acc cur hi f hv hF hc ha
  have hw:=f.wf
  have hlt:i<s.length:=by omega
  have e1:nn i:=by unfold nn;omega
  have e2:nn s.length:=by unfold nn;omega
  have e3:s.length<9223372036854775808:=by omega
  have e4:i<9223372036854775808:=by omega
  have e5:(i+1) % 18446744073709551616=i+1:=by omega
  have e6:i+1<9223372036854775808:=by omega
  have e7:i≤i+1:=by omega
  have e8:i+1≤s.length:=by omega
  have hE:=enc_at s i hlt
  have hdr:s.drop i=s[i] :: s.drop (i+1):=List.drop_eq_getElem_cons hlt
  have hsl:(s.drop i).take (i+1-i)=[s[i]]:=by
   rw [hdr,show i+1-i=1 by omega];rfl
  have eS:V.str (i+1-i) (enc s >>> (8 * i) % 256 ^ (i+1-i))=tv [s[i]]:=by
   rw [str_sl e7 e8,hsl]
  rw [hdr] at hF
  generalize s[i]=b at hE hdr eS hF
  have i1:∀ {id:Nat} {k:R},isOne id vo k=k:=fun {id k}=>hv.is1
  by_cases hb:blankB b=true
  ·rw [fieldsGo,if_pos hb] at hF
   have hb':b.toNat=32∨b.toNat=9:=by simpa [blankB] using hb
   by_cases hcur:cur=[]
   ·rw [if_pos hcur] at hF
    subst hcur
    obtain ⟨G',vo',acc',cur',f',hv',hF',hc',ha',z'⟩:=ih (i+1) G vo acc [] (by omega) f hv hF (by simp) (by omega)
    refine ⟨G',vo',acc',cur',f',hv',hF',hc',ha',fun d kx r e hr h0 h3 h4 h5 x hx => ?_⟩
    obtain ⟨r,rfl⟩:∃ q,r=q+1:=⟨r-1,by omega⟩
    rw [tv_nil] at h4
    rw [evL_succ]
    rcases hb' with hb' | hb'
    ·have q1:(b.toNat=32)=True:=eq_true hb'
     simp only [go_sem,↓op_app,reduceCtorEq,Nat.reduceAdd,Nat.reduceSub,Nat.reduceMul,Nat.reduceEqDiff,Nat.reduceLT,Nat.reduceDiv,Nat.reduceMod,Nat.reduceLeDiff,↓reduceIte,c28l0,h0,h3,h4,h5,vStr_tv,e1,e2,e3,e4,e5,hlt,hE,q1]
     refine z' d kx r _ (by omega) ?_ ?_ ?_ ?_ x hx <;> simp only [go_sem,↓op_app,reduceCtorEq,Nat.reduceAdd,Nat.reduceSub,Nat.reduceMul,Nat.reduceEqDiff,Nat.reduceLT,Nat.reduceDiv,Nat.reduceMod,Nat.reduceLeDiff,↓reduceIte,h0,h3,h4,tv_nil]
    ·have q1:(b.toNat=32)=False:=eq_false (by omega)
     have q2:(b.toNat=9)=True:=eq_true hb'
     simp only [go_sem,↓op_app,reduceCtorEq,Nat.reduceAdd,Nat.reduceSub,Nat.reduceMul,Nat.reduceEqDiff,Nat.reduceLT,Nat.reduceDiv,Nat.reduceMod,Nat.reduceLeDiff,↓reduceIte,c28l0,h0,h3,h4,h5,vStr_tv,e1,e2,e3,e4,e5,hlt,hE,q1,q2]
     refine z' d kx r _ (by omega) ?_ ?_ ?_ ?_ x hx <;> simp only [go_sem,↓op_app,reduceCtorEq,Nat.reduceAdd,Nat.reduceSub,Nat.reduceMul,Nat.reduceEqDiff,Nat.reduceLT,Nat.reduceDiv,Nat.reduceMod,Nat.reduceLeDiff,↓reduceIte,h0,h3,h4,tv_nil]
   ·rw [if_neg hcur] at hF
    generalize hG1:G.new (.cells [tv cur])=G1
    have f1:Fresh G G1:=by rw [← hG1];exact Fresh.new hw
    have g1x:G1.get G.n = .cells [tv cur]:=by rw [← hG1,Heap.get_new hw,if_pos rfl]
    obtain ⟨vo1,G2,zz,hv2,f2,_,_,_⟩:=(hv.fresh f1).app (cx:=2) (sx:=0) (f.trans f1) g1x rfl (fun v hv=>by
     simp only [List.mem_cons,List.not_mem_nil,or_false] at hv
     subst hv
     rfl) (by omega)
    have hm:(acc ++ [cur]).map tv=acc.map tv ++ [tv cur]:=by simp
    have hl1:(acc ++ [cur]).length=acc.length+1:=by simp
    rw [← hm,← hl1] at hv2
    obtain ⟨G',vo',acc',cur',f',hv',hF',hc',ha',z'⟩:=ih (i+1) G2 vo1 (acc ++ [cur]) [] (by omega) f2 hv2 (by rw [hF,List.append_assoc];rfl) (by simp) (by rw [hl1];omega)
    refine ⟨G',vo',acc',cur',f',hv',hF',hc',ha',fun d kx r e hr h0 h3 h4 h5 x hx => ?_⟩
    obtain ⟨r,rfl⟩:∃ q,r=q+1:=⟨r-1,by omega⟩
    have q3:(cur.length=0∧enc cur=0)=False:=by rw [len_enc_nil];exact eq_false hcur
    have zz':∀ {id:Nat} {ph:Phi} {e':Env} {k:K},pgetA (.s ⟨.i0, .i3, .i7⟩) e'=vo→pgetA (.s ⟨.i0, .i4, .i1⟩) e' = .slice G.n 0 1 2 0→evOp (.app false 1 (.s ⟨.i0, .i3, .i7⟩) (.s ⟨.i0, .i4, .i1⟩)) id ph e' G1 k=k vo1 G2:=fun {id ph e' k} p q=>zz p q
    have t5:∀ {id:Nat} {x:R},allOne id [tv cur] x=x:=fun {id x}=>rfl
    have t6:∀ {id:Nat} {f:List V→R},setAt id [tv cur] [.str 0 0] 0 f=f [tv cur]:=fun {id f}=>rfl
    rw [evL_succ]
    rcases hb' with hb' | hb'
    ·have q1:(b.toNat=32)=True:=eq_true hb'
     simp only [go_sem,reduceCtorEq,Nat.reduceAdd,Nat.reduceSub,Nat.reduceMul,Nat.reduceEqDiff,Nat.reduceLT,Nat.reduceDiv,Nat.reduceMod,Nat.reduceLeDiff,↓reduceIte,c28l0,h0,h3,h4,h5,vStr_tv,isOne_tv,e1,e2,e3,e4,e5,hlt,hE,q1,q3,hw,hG1,vCells_tv,t5,t6,↓zz']
     refine z' d kx r _ (by omega) ?_ ?_ ?_ ?_ x hx <;> simp only [go_sem,↓op_app,reduceCtorEq,Nat.reduceAdd,Nat.reduceSub,Nat.reduceMul,Nat.reduceEqDiff,Nat.reduceLT,Nat.reduceDiv,Nat.reduceMod,Nat.reduceLeDiff,↓reduceIte,h0,h3,h4,tv_nil]
    ·have q1:(b.toNat=32)=False:=eq_false (by omega)
     have q2:(b.toNat=9)=True:=eq_true hb'
     simp only [go_sem,reduceCtorEq,Nat.reduceAdd,Nat.reduceSub,Nat.reduceMul,Nat.reduceEqDiff,Nat.reduceLT,Nat.reduceDiv,Nat.reduceMod,Nat.reduceLeDiff,↓reduceIte,c28l0,h0,h3,h4,h5,vStr_tv,isOne_tv,e1,e2,e3,e4,e5,hlt,hE,q1,q2,q3,hw,hG1,vCells_tv,t5,t6,↓zz']
     refine z' d kx r _ (by omega) ?_ ?_ ?_ ?_ x hx <;> simp only [go_sem,↓op_app,reduceCtorEq,Nat.reduceAdd,Nat.reduceSub,Nat.reduceMul,Nat.reduceEqDiff,Nat.reduceLT,Nat.reduceDiv,Nat.reduceMod,Nat.reduceLeDiff,↓reduceIte,h0,h3,h4,tv_nil]
  ·rw [fieldsGo,if_neg hb] at hF
   have hb':¬ b.toNat=32 ∧ ¬ b.toNat=9:=by simpa [blankB] using hb
   have q1:(b.toNat=32)=False:=eq_false hb'.1
   have q2:(b.toNat=9)=False:=eq_false hb'.2
   obtain ⟨G',vo',acc',cur',f',hv',hF',hc',ha',z'⟩:=ih (i+1) G vo acc (cur ++ [b]) (by omega) f hv hF (by simp;omega) (by omega)
   refine ⟨G',vo',acc',cur',f',hv',hF',hc',ha',fun d kx r e hr h0 h3 h4 h5 x hx => ?_⟩
   obtain ⟨r,rfl⟩:∃ q,r=q+1:=⟨r-1,by omega⟩
   have q4:V.str (cur.length+[b].length) (enc cur+enc [b] * 256 ^ cur.length)=tv (cur ++ [b]):=tv_append cur [b]
   rw [evL_succ]
   simp only [go_sem,↓op_app,reduceCtorEq,Nat.reduceAdd,Nat.reduceSub,Nat.reduceMul,Nat.reduceEqDiff,Nat.reduceLT,Nat.reduceDiv,Nat.reduceMod,Nat.reduceLeDiff,↓reduceIte,c28l0,h0,h3,h4,h5,vStr_tv,isOne_tv,e1,e2,e3,e4,e5,e6,e7,e8,hlt,hE,q1,q2,eS]
   rw [if_pos (show cur.length+1<9223372036854775808 by omega)]
   refine z' d kx r _ (by omega) ?_ ?_ ?_ ?_ x hx <;> simp only [go_sem,reduceCtorEq,↓reduceIte,h0,h3]
   exact q4
theorem rwords_call (T:TCode t) (hw:H.wf) (hfu:1000001<fuel) {s:List UInt8} (hs:s.length≤900000) :
  ∃ G v,Fresh H G∧Gr H G v 1 (fieldsP s).length ((fieldsP s).map tv) ∧ ∀ (d:Nat) (k:K),callP (evP cp t fuel (d+1)) (.func 56 []) [tv s] H k=k v G:=by
 obtain ⟨G,vo,acc,cur,f,hv,hF,hc,ha,z⟩:=rwords_loop (cp:=cp) (fuel:=fuel) T hs s.length 0 H .nils [] [] (by omega) (Fresh.refl hw) Gr.nils rfl (by simp) (by simp)
 have hw1:=f.wf
 by_cases hcur:cur=[]
 ·rw [hcur,fieldsGo,if_pos rfl,List.append_nil] at hF
  rw [hF]
  refine ⟨G,vo,f,hv,fun d k => ?_⟩
  rw [call_entry T.k28 rfl rfl]
  simp only [go_sem,↓op_app,reduceCtorEq,Nat.reduceAdd,Nat.reduceSub,Nat.reduceMul,Nat.reduceEqDiff,Nat.reduceLT,Nat.reduceDiv,Nat.reduceMod,Nat.reduceLeDiff,↓reduceIte,c28]
  refine z d _ fuel _ (by omega) ?_ ?_ ?_ ?_ _ fun e' h3 h4 => ?_
  ·simp only [go_sem,reduceCtorEq,↓reduceIte]
  ·simp only [go_sem,reduceCtorEq,↓reduceIte]
  ·simp only [go_sem,↓op_app,reduceCtorEq,Nat.reduceAdd,Nat.reduceSub,Nat.reduceMul,Nat.reduceEqDiff,Nat.reduceLT,Nat.reduceDiv,Nat.reduceMod,Nat.reduceLeDiff,↓reduceIte,tv_nil]
  ·simp only [go_sem,reduceCtorEq,↓reduceIte]
  ·rw [hcur,tv_nil] at h4
   simp only [go_sem,↓op_app,reduceCtorEq,Nat.reduceAdd,Nat.reduceSub,Nat.reduceMul,Nat.reduceEqDiff,Nat.reduceLT,Nat.reduceDiv,Nat.reduceMod,Nat.reduceLeDiff,↓reduceIte,h3,h4]
 ·rw [fieldsGo,if_neg hcur] at hF
  generalize hG1:G.new (.cells [tv cur])=G1
  have f1:Fresh G G1:=by rw [← hG1];exact Fresh.new hw1
  have g1x:G1.get G.n = .cells [tv cur]:=by rw [← hG1,Heap.get_new hw1,if_pos rfl]
  obtain ⟨vo1,G2,zz,hv2,f2,_,_,_⟩:=(hv.fresh f1).app (cx:=2) (sx:=0) (f.trans f1) g1x rfl (fun v hv=>by
   simp only [List.mem_cons,List.not_mem_nil,or_false] at hv
   subst hv
   rfl) (by omega)
  have hm:(acc ++ [cur]).map tv=acc.map tv ++ [tv cur]:=by simp
  have hl1:(acc ++ [cur]).length=acc.length+1:=by simp
  rw [← hm,← hl1] at hv2
  rw [hF]
  refine ⟨G2,vo1,f2,hv2,fun d k => ?_⟩
  have q3:(cur.length=0∧enc cur=0)=False:=by rw [len_enc_nil];exact eq_false hcur
  have zz':∀ {id:Nat} {ph:Phi} {e':Env} {k:K},pgetA (.s ⟨.i0, .i4, .i5⟩) e'=vo→pgetA (.s ⟨.i0, .i4, .i7⟩) e' = .slice G.n 0 1 2 0→evOp (.app false 1 (.s ⟨.i0, .i4, .i5⟩) (.s ⟨.i0, .i4, .i7⟩)) id ph e' G1 k=k vo1 G2:=fun {id ph e' k} p q=>zz p q
  have t5:∀ {id:Nat} {x:R},allOne id [tv cur] x=x:=fun {id x}=>rfl
  have t6:∀ {id:Nat} {f:List V→R},setAt id [tv cur] [.str 0 0] 0 f=f [tv cur]:=fun {id f}=>rfl
  have i1:∀ {id:Nat} {k:R},isOne id vo k=k:=fun {id k}=>hv.is1
  rw [call_entry T.k28 rfl rfl]
  simp only [go_sem,reduceCtorEq,Nat.reduceAdd,Nat.reduceSub,Nat.reduceMul,Nat.reduceEqDiff,Nat.reduceLT,Nat.reduceDiv,Nat.reduceMod,Nat.reduceLeDiff,↓reduceIte,c28]
  refine z d _ fuel _ (by omega) ?_ ?_ ?_ ?_ _ fun e' h3 h4 => ?_
  ·simp only [go_sem,reduceCtorEq,↓reduceIte]
  ·simp only [go_sem,reduceCtorEq,↓reduceIte]
  ·simp only [go_sem,↓op_app,reduceCtorEq,Nat.reduceAdd,Nat.reduceSub,Nat.reduceMul,Nat.reduceEqDiff,Nat.reduceLT,Nat.reduceDiv,Nat.reduceMod,Nat.reduceLeDiff,↓reduceIte,tv_nil]
  ·simp only [go_sem,reduceCtorEq,↓reduceIte]
  ·simp only [go_sem,reduceCtorEq,Nat.reduceAdd,Nat.reduceSub,Nat.reduceMul,Nat.reduceEqDiff,Nat.reduceLT,Nat.reduceDiv,Nat.reduceMod,Nat.reduceLeDiff,↓reduceIte,h3,h4,vStr_tv,isOne_tv,q3,hw1,hG1,vCells_tv,t5,t6,↓zz']
end
end Go.Ev
end
section
namespace Go.Ev
def digs:List UInt8→Nat→Nat
 | [],n=>n
 | x :: l,n=>digs l (n * 10+(x.toNat-48))
def isDig (b:UInt8):Prop:=48≤b.toNat∧b.toNat≤57
theorem digs_decD {v:Nat} (h:v<10000):digs (decD v) 0=v∧(∀ b ∈ decD v,isDig b)∧decD v≠[]:=by
 have dg:∀ n,n<10→(UInt8.ofNat (48+n)).toNat=48+n:=fun n hn=>toNat_ofNat (by omega)
 have is:∀ n,n<10→isDig (UInt8.ofNat (48+n)):=fun n hn=>by unfold isDig;rw [dg n hn];omega
 unfold decD
 by_cases h1:v<10
 ·rw [if_pos h1]
  refine ⟨by simp only [digs];rw [dg _ h1];omega,fun b hb => ?_,by simp⟩
  simp only [List.mem_cons,List.not_mem_nil,or_false] at hb
  subst hb
  exact is _ h1
 ·rw [if_neg h1]
  by_cases h2:v<100
  ·rw [if_pos h2]
   refine ⟨by simp only [digs];rw [dg _ (by omega),dg _ (by omega)];omega,fun b hb => ?_,by simp⟩
   simp only [List.mem_cons,List.not_mem_nil,or_false] at hb
   rcases hb with rfl | rfl <;> exact is _ (by omega)
  ·rw [if_neg h2]
   by_cases h3:v<1000
   ·rw [if_pos h3]
    refine ⟨by simp only [digs];rw [dg _ (by omega),dg _ (by omega),dg _ (by omega)];omega,fun b hb => ?_,by simp⟩
    simp only [List.mem_cons,List.not_mem_nil,or_false] at hb
    rcases hb with rfl | rfl | rfl <;> exact is _ (by omega)
   ·rw [if_neg h3]
    refine ⟨by simp only [digs];rw [dg _ (by omega),dg _ (by omega),dg _ (by omega),dg _ (by omega)];omega,fun b hb => ?_,by simp⟩
    simp only [List.mem_cons,List.not_mem_nil,or_false] at hb
    rcases hb with rfl | rfl | rfl | rfl <;> exact is _ (by omega)
def numR (num:List UInt8→Nat) (s:List UInt8):Nat:=if num s<10000 then num s else neg1
section
variable {t:Nat→Option FnE} {cp:RC→CodeE} {fuel:Nat} {H:Heap} {dec:List UInt8→Nat × Nat} {num:List UInt8→Nat}
theorem rnum_loop {s:List UInt8} (hsl:s.length<9223372036854775808):∀ (rest:List UInt8) (i n:Nat),s.drop i=rest→i≤5→n<10 ^ i → ∀ (ph:Phi) (kx:Nat→KE) (r:Nat) (e:Env),6-i<r→pget ⟨.i0, .i0, .i0⟩ e=tv s→pget ⟨.i0, .i0, .i3⟩ e = .int 3 n→pget ⟨.i0, .i0, .i4⟩ e = .int 3 i →
  ∀ x:R,(digs rest n<100000→(∀ b ∈ rest,isDig b)→s.length≤5 → ∀ e',pget ⟨.i0, .i0, .i0⟩ e'=tv s→pget ⟨.i0, .i0, .i3⟩ e' = .int 3 (digs rest n)→kx 1 e' H=x)→(((∃ b ∈ rest,¬ isDig b)∨5<s.length) → ∀ e',pget ⟨.i0, .i0, .i2⟩ e' = .int 3 neg1→kx 0 e' H=x)→evL c50l0 fuel ph kx r e H=x:=by
 intro rest
 induction rest with
 | nil=>
  intro i n hd hi hn ph kx r e hr h0 h3 h4 x hY hN
  obtain ⟨r,rfl⟩:∃ q,r=q+1:=⟨r-1,by omega⟩
  have hi2:s.length≤i:=by rwa [List.drop_eq_nil_iff] at hd
  have e1:nn i:=by unfold nn;omega
  have e2:nn s.length:=hsl
  have e3:¬ i<s.length:=by omega
  have h5:(10:Nat) ^ i≤10 ^ 5:=Nat.pow_le_pow_right (by decide) hi
  rw [evL_succ]
  simp only [go_sem,↓op_app,reduceCtorEq,Nat.reduceAdd,Nat.reduceSub,Nat.reduceMul,Nat.reduceEqDiff,Nat.reduceLT,Nat.reduceDiv,Nat.reduceMod,Nat.reduceLeDiff,↓reduceIte,c50l0,h0,h4,vStr_tv,hsl,e1,e2,e3]
  refine hY (by simp only [digs];omega) (by simp) (by omega) _ ?_ ?_
  ·simp only [go_sem,reduceCtorEq,↓reduceIte,h0]
  ·simp only [go_sem,↓op_app,reduceCtorEq,Nat.reduceAdd,Nat.reduceSub,Nat.reduceMul,Nat.reduceEqDiff,Nat.reduceLT,Nat.reduceDiv,Nat.reduceMod,Nat.reduceLeDiff,↓reduceIte,h3,digs]
 | cons b rest ih=>
  intro i n hd hi hn ph kx r e hr h0 h3 h4 x hY hN
  obtain ⟨r,rfl⟩:∃ q,r=q+1:=⟨r-1,by omega⟩
  obtain ⟨hg,hlt,hd1⟩:=drop_get hd
  have hE:=enc_byte hg
  have hb:=b.toNat_lt
  have e1:nn i:=by unfold nn;omega
  have e2:nn s.length:=hsl
  have e4:i<9223372036854775808:=by omega
  have e5:(i+1) % 18446744073709551616=i+1:=by omega
  have l1:(evCF (.lt 0 256) b.toNat 48=true)=(b.toNat<48):=by rw [cf_lt];apply propext;omega
  have l2:(evCF (.gt 0 256) b.toNat 57=true)=(57<b.toNat):=by rw [cf_gt];apply propext;omega
  have bad:¬ isDig b → ∃ b' ∈ b :: rest,¬ isDig b':=fun h=>⟨b,List.mem_cons_self ..,h⟩
  rw [evL_succ]
  by_cases q1:b.toNat<48
  ·simp only [go_sem,↓op_app,reduceCtorEq,Nat.reduceAdd,Nat.reduceSub,Nat.reduceMul,Nat.reduceEqDiff,Nat.reduceLT,Nat.reduceDiv,Nat.reduceMod,Nat.reduceLeDiff,↓reduceIte,c50l0,h0,h3,h4,vStr_tv,hsl,e1,e2,e4,e5,hlt,hE,l1,q1]
   exact hN (Or.inl (bad fun h=>by have:=h.1;omega)) _ (by simp only [go_sem,reduceCtorEq,↓reduceIte])
  ·by_cases q2:57<b.toNat
   ·simp only [go_sem,↓op_app,reduceCtorEq,Nat.reduceAdd,Nat.reduceSub,Nat.reduceMul,Nat.reduceEqDiff,Nat.reduceLT,Nat.reduceDiv,Nat.reduceMod,Nat.reduceLeDiff,↓reduceIte,c50l0,h0,h3,h4,vStr_tv,hsl,e1,e2,e4,e5,hlt,hE,l1,l2,q1,q2]
    exact hN (Or.inl (bad fun h=>by have:=h.2;omega)) _ (by simp only [go_sem,reduceCtorEq,↓reduceIte])
   ·by_cases q3:4<i
    ·simp only [go_sem,↓op_app,reduceCtorEq,Nat.reduceAdd,Nat.reduceSub,Nat.reduceMul,Nat.reduceEqDiff,Nat.reduceLT,Nat.reduceDiv,Nat.reduceMod,Nat.reduceLeDiff,↓reduceIte,c50l0,h0,h3,h4,vStr_tv,hsl,e1,e2,e4,e5,hlt,hE,l1,l2,q1,q2,q3]
     exact hN (Or.inr (by omega)) _ (by simp only [go_sem,reduceCtorEq,↓reduceIte])
    ·have h5:(10:Nat) ^ i≤10 ^ 4:=Nat.pow_le_pow_right (by decide) (by omega)
     have h6:(10:Nat) ^ (i+1)=10 ^ i * 10:=Nat.pow_succ ..
     have m1:10 * n % 18446744073709551616=n * 10:=by omega
     have m2:(b.toNat+208) % 256=b.toNat-48:=by omega
     have m3:(b.toNat-48) % 18446744073709551616=b.toNat-48:=by omega
     have m4:(n * 10+(b.toNat-48)) % 18446744073709551616=n * 10+(b.toNat-48):=by omega
     simp only [go_sem,↓op_app,reduceCtorEq,Nat.reduceAdd,Nat.reduceSub,Nat.reduceMul,Nat.reduceEqDiff,Nat.reduceLT,Nat.reduceDiv,Nat.reduceMod,Nat.reduceLeDiff,↓reduceIte,c50l0,h0,h3,h4,vStr_tv,hsl,e1,e2,e4,e5,hlt,hE,l1,l2,q1,q2,q3,m1,m2,m3,m4]
     refine ih (i+1) (n * 10+(b.toNat-48)) hd1 (by omega) (by omega) ph kx r _ (by omega) ?_ ?_ ?_ x (fun h1 h2=>hY (by simpa only [digs] using h1) fun b' hb' => ?_) (fun h=>hN ?_)
     ·simp only [go_sem,reduceCtorEq,↓reduceIte,h0]
     ·simp only [go_sem,reduceCtorEq,↓reduceIte]
     ·simp only [go_sem,reduceCtorEq,↓reduceIte]
     ·rcases List.mem_cons.1 hb' with rfl | hb'
      ·exact ⟨by omega,by omega⟩
      ·exact h2 b' hb'
     ·rcases h with ⟨b',h1,h2⟩ | h
      ·exact Or.inl ⟨b',List.mem_cons_of_mem _ h1,h2⟩
      ·exact Or.inr h
theorem rnum_call (T:TCode t) (N:NumOK num) (hw:H.wf) (hfu:100<fuel) {s:List UInt8} (hsl:s.length<9223372036854775808) :
  ∃ G,Fresh H G ∧ ∀ (d:Nat) (k:K),callP (evP cp t fuel (d+5)) (.func 100 []) [tv s] H k=k (.int 3 (numR num s)) G:=by
 by_cases hv:num s<10000
 ·have hsv:=(N.is s _ hv).1 rfl
  obtain ⟨g1,g2,g3⟩:=digs_decD hv
  rw [← hsv] at g1 g2 g3
  have hl4:s.length≤5:=by rw [hsv];have:=decD_len (num s);omega
  obtain ⟨G,f,z⟩:=digits_call (cp:=cp) (fuel:=fuel) T 3 (num s) (by omega) hv H hw
  rw [← hsv] at z
  have q3:(s.length=0∧enc s=0)=False:=by rw [len_enc_nil];exact eq_false g3
  have m1:min (num s) 9999=num s:=by omega
  have e1:nn (num s):=by unfold nn;omega
  have hr:numR num s=num s:=if_pos hv
  refine ⟨G,f,fun d k => ?_⟩
  have z':=fun {k:K}=>z d k
  rw [call_entry T.k50 rfl rfl]
  simp only [go_sem,↓op_app,reduceCtorEq,Nat.reduceAdd,Nat.reduceSub,Nat.reduceMul,Nat.reduceEqDiff,Nat.reduceLT,Nat.reduceDiv,Nat.reduceMod,Nat.reduceLeDiff,↓reduceIte,c50]
  refine rnum_loop (s:=s) (H:=H) hsl s 0 0 rfl (by omega) (by omega) _ _ fuel _ (by omega) ?_ ?_ ?_ _ (fun h1 h2 h3 e' q0 q4 => ?_) (fun h => ?_)
  ·simp only [go_sem,reduceCtorEq,↓reduceIte]
  ·simp only [go_sem,reduceCtorEq,↓reduceIte]
  ·simp only [go_sem,reduceCtorEq,↓reduceIte]
  ·rw [g1] at q4
   simp only [go_sem,↓op_app,reduceCtorEq,Nat.reduceAdd,Nat.reduceSub,Nat.reduceMul,Nat.reduceEqDiff,Nat.reduceLT,Nat.reduceDiv,Nat.reduceMod,Nat.reduceLeDiff,↓reduceIte,q0,q4,vStr_tv,q3,e1,m1,z',and_self,hr]
  ·rcases h with ⟨b,h1,h2⟩ | h
   ·exact absurd (g2 b h1) h2
   ·omega
 ·have hr:numR num s=neg1:=if_neg hv
  by_cases hb:(∃ b ∈ s,¬ isDig b)∨5<s.length
  ·refine ⟨H,Fresh.refl hw,fun d k => ?_⟩
   rw [call_entry T.k50 rfl rfl]
   simp only [go_sem,↓op_app,reduceCtorEq,Nat.reduceAdd,Nat.reduceSub,Nat.reduceMul,Nat.reduceEqDiff,Nat.reduceLT,Nat.reduceDiv,Nat.reduceMod,Nat.reduceLeDiff,↓reduceIte,c50]
   refine rnum_loop (s:=s) (H:=H) hsl s 0 0 rfl (by omega) (by omega) _ _ fuel _ (by omega) ?_ ?_ ?_ _ (fun h1 h2 h3 e' q0 q4 => ?_) (fun h e' q2 => ?_)
   ·simp only [go_sem,reduceCtorEq,↓reduceIte]
   ·simp only [go_sem,reduceCtorEq,↓reduceIte]
   ·simp only [go_sem,reduceCtorEq,↓reduceIte]
   ·rcases hb with ⟨b,h4,h5⟩ | h
    ·exact absurd (h2 b h4) h5
    ·omega
   ·simp only [go_sem,↓op_app,reduceCtorEq,Nat.reduceAdd,Nat.reduceSub,Nat.reduceMul,Nat.reduceEqDiff,Nat.reduceLT,Nat.reduceDiv,Nat.reduceMod,Nat.reduceLeDiff,↓reduceIte,q2,hr]
  ·by_cases hs0:s=[]
   ·refine ⟨H,Fresh.refl hw,fun d k => ?_⟩
    have q3:(s.length=0∧enc s=0)=True:=by rw [len_enc_nil];exact eq_true hs0
    rw [call_entry T.k50 rfl rfl]
    simp only [go_sem,↓op_app,reduceCtorEq,Nat.reduceAdd,Nat.reduceSub,Nat.reduceMul,Nat.reduceEqDiff,Nat.reduceLT,Nat.reduceDiv,Nat.reduceMod,Nat.reduceLeDiff,↓reduceIte,c50]
    refine rnum_loop (s:=s) (H:=H) hsl s 0 0 rfl (by omega) (by omega) _ _ fuel _ (by omega) ?_ ?_ ?_ _ (fun h1 h2 h3 e' q0 q4 => ?_) (fun h=>absurd h hb)
    ·simp only [go_sem,reduceCtorEq,↓reduceIte]
    ·simp only [go_sem,reduceCtorEq,↓reduceIte]
    ·simp only [go_sem,reduceCtorEq,↓reduceIte]
    ·simp only [go_sem,↓op_app,reduceCtorEq,Nat.reduceAdd,Nat.reduceSub,Nat.reduceMul,Nat.reduceEqDiff,Nat.reduceLT,Nat.reduceDiv,Nat.reduceMod,Nat.reduceLeDiff,↓reduceIte,q0,q4,vStr_tv,q3,hr]
   ·have hm:min (digs s 0) 9999<10000:=by omega
    obtain ⟨G,f,z⟩:=digits_call (cp:=cp) (fuel:=fuel) T 3 (min (digs s 0) 9999) (by omega) hm H hw
    have hne:decD (min (digs s 0) 9999)≠s:=fun h=>by
     have:=(N.is s _ hm).2 h.symm
     omega
    refine ⟨G,f,fun d k => ?_⟩
    have z':=fun {k:K}=>z d k
    have q3:(s.length=0∧enc s=0)=False:=by rw [len_enc_nil];exact eq_false hs0
    have q5:((decD (min (digs s 0) 9999)).length=s.length∧enc (decD (min (digs s 0) 9999))=enc s)=False:=by rw [len_enc_eq];exact eq_false hne
    rw [call_entry T.k50 rfl rfl]
    simp only [go_sem,↓op_app,reduceCtorEq,Nat.reduceAdd,Nat.reduceSub,Nat.reduceMul,Nat.reduceEqDiff,Nat.reduceLT,Nat.reduceDiv,Nat.reduceMod,Nat.reduceLeDiff,↓reduceIte,c50]
    refine rnum_loop (s:=s) (H:=H) hsl s 0 0 rfl (by omega) (by omega) _ _ fuel _ (by omega) ?_ ?_ ?_ _ (fun h1 h2 h3 e' q0 q4 => ?_) (fun h=>absurd h hb)
    ·simp only [go_sem,reduceCtorEq,↓reduceIte]
    ·simp only [go_sem,reduceCtorEq,↓reduceIte]
    ·simp only [go_sem,reduceCtorEq,↓reduceIte]
    ·have e1:nn (digs s 0):=by unfold nn;omega
     simp only [go_sem,↓op_app,reduceCtorEq,Nat.reduceAdd,Nat.reduceSub,Nat.reduceMul,Nat.reduceEqDiff,Nat.reduceLT,Nat.reduceDiv,Nat.reduceMod,Nat.reduceLeDiff,↓reduceIte,q0,q4,vStr_tv,q3,e1,z',q5,hr]
end
end Go.Ev
end
section
namespace Go.Ev
theorem rowsR_get {i j:Nat} {r:KRow} {v:V} (h:kindsT[i]? = some r) (hj:j<4) (hv:r.rc[j]? = some v):rowsR[i * 4+j]? = some v:=by
 rw [← hv,← rowsR_at i r h,List.getElem?_take,if_pos hj,List.getElem?_drop]
def needN (r:KRow):Nat:=2+(if r.b=neg1 then 0 else 1)+(if r.d=true then 1 else 0)
def stepK (num:List UInt8→Nat) (i:Nat) (r:KRow) (F:List (List UInt8)):Stp:=⟨i,numR num (F.getD 1 []),if r.b=neg1 then 0 else numR num (F.getD 2 []),if r.d=true then F.getD (needN r-1) [] else []⟩
theorem num_nil {num:List UInt8→Nat} (N:NumOK num):¬ num []<10000:=fun h=>by
 have h1:=(N.is [] _ h).1 rfl
 exact (digs_decD h).2.2 h1.symm
theorem within_numR {num:List UInt8→Nat} {s:List UInt8} {m:Nat} (hm:m<10000):within (numR num s) m=within (num s) m∧(within (num s) m=true→numR num s=num s):=by
 unfold numR
 by_cases h:num s<10000
 ·rw [if_pos h];exact ⟨rfl,fun _=>rfl⟩
 ·rw [if_neg h]
  have h1:within (num s) m=false:=by
   unfold within
   rw [if_pos (by omega)]
   simp
   omega
  have h2:within neg1 m=false:=by unfold within;rw [show decide (neg1<9223372036854775808)=false from rfl];rfl
  rw [h1,h2]
  exact ⟨rfl,fun h=>by cases h⟩
theorem within_nil {num:List UInt8→Nat} (N:NumOK num) {m:Nat} (hm:m<10000):within (num []) m=false:=by
 have h:=num_nil N
 unfold within
 rw [if_pos (by omega)]
 simp
 omega
theorem may_parts {r:KRow} {s:Stp} (h:mayB r s=true):within s.a r.a=true∧within s.b r.b=true∧(r.d=true→s.d≠[]):=by
 simp only [mayB,Bool.and_eq_true] at h
 obtain ⟨⟨h1,h2⟩,h3⟩:=h
 refine ⟨h2,h3,fun hd => ?_⟩
 rw [if_pos hd] at h1
 simp only [Bool.and_eq_true,decide_eq_true_eq] at h1
 exact h1.1.1
theorem may_same {num:List UInt8→Nat} {r:KRow} (ka:r.a<10000) {i:Nat} {a d:List UInt8} {b b':Nat} (hb:b'=b ∨ ∃ y,r.b<10000∧b=num y∧b'=numR num y) :
  (if mayB r ⟨i,num a,b,d⟩=true then ((⟨i,num a,b,d⟩,0):Stp × Nat) else (stp0,4))=if mayB r ⟨i,numR num a,b',d⟩=true then (⟨i,numR num a,b',d⟩,0) else (stp0,4):=by
 have ha:=within_numR (num:=num) (s:=a) ka
 have hbw:within b' r.b=within b r.b∧(within b r.b=true→b'=b):=by
  rcases hb with rfl | ⟨y,h1,rfl,rfl⟩
  ·exact ⟨rfl,fun _=>rfl⟩
  ·exact within_numR h1
 have he:mayB r ⟨i,numR num a,b',d⟩=mayB r ⟨i,num a,b,d⟩:=by simp only [mayB,ha.1,hbw.1]
 rw [he]
 by_cases h:mayB r ⟨i,num a,b,d⟩=true
 ·obtain ⟨h1,h2,_⟩:=may_parts h
  rw [if_pos h,if_pos h,ha.2 h1,hbw.2 h2]
 ·rw [if_neg h,if_neg h]
theorem may_no {num:List UInt8→Nat} (N:NumOK num) {r:KRow} (ka:r.a<10000) {i b:Nat} {d:List UInt8}:mayB r ⟨i,num [],b,d⟩=true→False:=fun h=>by
 have h1:=(may_parts h).1
 rw [show (⟨i,num [],b,d⟩:Stp).a=num [] from rfl,within_nil N ka] at h1
 cases h1
theorem may_no2 {num:List UInt8→Nat} (N:NumOK num) {r:KRow} (kb:r.b<10000) {i a:Nat} {d:List UInt8}:mayB r ⟨i,a,num [],d⟩=true→False:=fun h=>by
 have h1:=(may_parts h).2.1
 rw [show (⟨i,a,num [],d⟩:Stp).b=num [] from rfl,within_nil N kb] at h1
 cases h1
theorem may_no3 {r:KRow} (hd:r.d=true) {i a b:Nat}:mayB r ⟨i,a,b,[]⟩=true→False:=fun h=>(may_parts h).2.2 hd rfl
theorem stepK_eq {num:List UInt8→Nat} (N:NumOK num) {w0:List UInt8} {l:List (List UInt8)} {i:Nat} {r:KRow} (hk:kindB w0=some (i,r)) :
  stepP num (w0 :: l)=if (w0 :: l).length=needN r then (if mayS (stepK num i r (w0 :: l))=true then (stepK num i r (w0 :: l),0) else (stp0,4)) else (stp0,4):=by
 obtain ⟨hrm,_,_,hri,_⟩:=findK_mem kindsT 0 w0 i r hk
 rw [Nat.sub_zero] at hri
 obtain ⟨ka,kb⟩:=kinds_ok r hrm
 unfold stepP
 rw [show kindB ((w0 :: l).headD [])=some (i,r) from hk]
 show (if (if r.d=true then (if r.b=neg1 then l.tail else l.tail.tail).tail else (if r.b=neg1 then l.tail else l.tail.tail))=[]∧mayB r ⟨i,num (l.headD []),if r.b=neg1 then 0 else num (l.tail.headD []),if r.d=true then (if r.b=neg1 then l.tail else l.tail.tail).headD [] else []⟩=true then
   ((⟨i,num (l.headD []),if r.b=neg1 then 0 else num (l.tail.headD []),if r.d=true then (if r.b=neg1 then l.tail else l.tail.tail).headD [] else []⟩,0):Stp × Nat) else (stp0,4))=_
 have hmay:∀ s:Stp,s.k=i→mayS s=mayB r s:=fun s hs=>by unfold mayS;rw [hs,hri]
 rw [hmay (stepK num i r (w0 :: l)) rfl]
 by_cases hb:r.b=neg1
 ·by_cases hd:r.d=true
  ·have hn:needN r=3:=by unfold needN;rw [if_pos hb,if_pos hd]
   rw [hn]
   unfold stepK
   rw [hn]
   simp only [if_pos hb,if_pos hd]
   match l with
   | []=>rw [if_neg fun h=>may_no N ka h.2,if_neg (by simp)]
   | [a]=>rw [if_neg fun h=>may_no3 hd h.2,if_neg (by simp)]
   | [a,d]=>
    rw [if_pos (show ([w0,a,d]:List (List UInt8)).length=3 from rfl)]
    simp only [List.tail_cons,true_and]
    exact may_same ka (Or.inl rfl)
   | a :: d :: x :: y=>rw [if_neg (by simp),if_neg (by simp)]
  ·have hn:needN r=2:=by unfold needN;rw [if_pos hb,if_neg hd]
   rw [hn]
   unfold stepK
   rw [hn]
   simp only [if_pos hb,if_neg hd]
   match l with
   | []=>rw [if_neg fun h=>may_no N ka h.2,if_neg (by simp)]
   | [a]=>
    rw [if_pos (show ([w0,a]:List (List UInt8)).length=2 from rfl)]
    simp only [List.tail_cons,true_and]
    exact may_same ka (Or.inl rfl)
   | a :: d :: x=>rw [if_neg (by simp),if_neg (by simp)]
 ·have kb':r.b<10000:=by
   rcases kb with h | h
   ·exact absurd h hb
   ·exact h
  by_cases hd:r.d=true
  ·have hn:needN r=4:=by unfold needN;rw [if_neg hb,if_pos hd]
   rw [hn]
   unfold stepK
   rw [hn]
   simp only [if_neg hb,if_pos hd]
   match l with
   | []=>rw [if_neg fun h=>may_no N ka h.2,if_neg (by simp)]
   | [a]=>rw [if_neg fun h=>may_no2 N kb' h.2,if_neg (by simp)]
   | [a,b]=>rw [if_neg fun h=>may_no3 hd h.2,if_neg (by simp)]
   | [a,b,d]=>
    rw [if_pos (show ([w0,a,b,d]:List (List UInt8)).length=4 from rfl)]
    simp only [List.tail_cons,true_and]
    exact may_same ka (Or.inr ⟨b,kb',rfl,rfl⟩)
   | a :: b :: d :: x :: y=>rw [if_neg (by simp),if_neg (by simp)]
  ·have hn:needN r=3:=by unfold needN;rw [if_neg hb,if_neg hd]
   rw [hn]
   unfold stepK
   rw [hn]
   simp only [if_neg hb,if_neg hd]
   match l with
   | []=>rw [if_neg fun h=>may_no N ka h.2,if_neg (by simp)]
   | [a]=>rw [if_neg fun h=>may_no2 N kb' h.2,if_neg (by simp)]
   | [a,b]=>
    rw [if_pos (show ([w0,a,b]:List (List UInt8)).length=3 from rfl)]
    simp only [List.tail_cons,true_and]
    exact may_same ka (Or.inr ⟨b,kb',rfl,rfl⟩)
   | a :: b :: x :: y=>rw [if_neg (by simp),if_neg (by simp)]
end Go.Ev
end
section
namespace Go.Ev
theorem needN_le (r:KRow):2≤needN r∧needN r≤4:=by
 unfold needN
 by_cases h1:r.b=neg1 <;> by_cases h2:r.d=true <;> simp [h1,h2]
structure EK (v:V) (Rb B i:Nat) (e:Env):Prop where
 a0:pget ⟨.i0, .i0, .i0⟩ e=v
 a2:pget ⟨.i0, .i0, .i2⟩ e = .ptr Rb 0
 a4:pget ⟨.i0, .i0, .i4⟩ e = .slice B 0 12 13 0
 a5:pget ⟨.i0, .i0, .i5⟩ e = .int 3 i
structure KH (H G:Heap) (Rb B S:Nat) (s:Stp):Prop where
 f:Fresh H G
 gB:G.get B = .cells rowsR
 gR:G.get Rb = .cells stp0.cells
 gS:G.get S = .cells s.cells
 hR:H.n≤Rb
 hS:H.n≤S
 lB:B<G.n
 lR:Rb<G.n
 lS:S<G.n
 RS:Rb≠S
 BS:B≠S
theorem KH.fresh {H G G':Heap} {Rb B S:Nat} {s:Stp} (h:KH H G Rb B S s) (f:Fresh G G'):KH H G' Rb B S s:=by
 have n:=f.n
 exact ⟨h.f.trans f,(f.same _ h.lB).trans h.gB,(f.same _ h.lR).trans h.gR,(f.same _ h.lS).trans h.gS,h.hR,h.hS,Nat.lt_of_lt_of_le h.lB n,Nat.lt_of_lt_of_le h.lR n,Nat.lt_of_lt_of_le h.lS n,h.RS,h.BS⟩
theorem KH.put {H G:Heap} {Rb B S:Nat} {s s':Stp} (h:KH H G Rb B S s):KH H (G.put S (.cells s'.cells)) Rb B S s':=by
 have hw:=h.f.wf
 refine ⟨h.f.put h.hS h.lS, ?_, ?_, ?_,h.hR,h.hS,by rw [Heap.n_put];exact h.lB,by rw [Heap.n_put];exact h.lR,by rw [Heap.n_put];exact h.lS,h.RS,h.BS⟩
 ·rw [Heap.get_put hw h.lS,if_neg h.BS];exact h.gB
 ·rw [Heap.get_put hw h.lS,if_neg h.RS];exact h.gR
 ·rw [Heap.get_put hw h.lS,if_pos rfl]
section
variable {t:Nat→Option FnE} {cp:RC→CodeE} {fuel:Nat} {H:Heap} {dec:List UInt8→Nat × Nat} {num:List UInt8→Nat}
theorem rstep_q8 (T:TCode t) (hfu:100<fuel) {G:Heap} (hw:G.wf) {Rb S:Nat} {s:Stp} (sok:StOK s) (gS:G.get S = .cells s.cells) (hS:S<G.n) (gR:G.get Rb = .cells stp0.cells) (hR:Rb<G.n) (hRS:Rb≠S) (hH:H.n≤Rb) (fG:Fresh H G) :
  ∃ G',Fresh H G'∧G'.get Rb = .cells (if mayS s=true then s else stp0).cells∧G.n≤G'.n ∧ ∀ (d:Nat) (kn:KE) (kx:Nat→KE) (e:Env) (x:R),pget ⟨.i0, .i0, .i2⟩ e = .ptr Rb 0→pget ⟨.i0, .i0, .i7⟩ e = .ptr S 0→(∀ e',pget ⟨.i0, .i0, .i2⟩ e' = .ptr Rb 0→pget ⟨.i0, .i0, .i3⟩ e' = .int 3 (if mayS s=true then 0 else 4)→kx 0 e' G'=x)→evC c29q8 fuel (evP cp t fuel (d+2)) e G kn kx=x:=by
 obtain ⟨G1,f1,z1⟩:=may2_call (cp:=cp) (fuel:=fuel) T hw sok.k sok.a sok.b sok.d hfu
 have hw1:=f1.wf
 have z1':=fun {d:Nat} {k:K}=>z1 d k
 have n1:=f1.n
 have hR1:Rb<G1.n:=by omega
 have gS1:G1.get S = .cells s.cells:=(f1.same S hS).trans gS
 have gR1:G1.get Rb = .cells stp0.cells:=(f1.same Rb hR).trans gR
 have e1:∀ {q:Stp} {id:Nat} {x:R},allOne id q.cells x=x:=fun {q id x}=>rfl
 have e2:∀ {q:Stp} {id:Nat} {f:List V→R},setAt id q.cells stp0.cells 0 f=f q.cells:=fun {q id f}=>rfl
 have e3:∀ {q:Stp},q.cells.length=4:=fun {q}=>rfl
 have e7:∀ {q:Stp},List.take 4 q.cells=q.cells:=fun {q}=>rfl
 have e4:∀ {q:Stp} {id:Nat} {f:List V→R},dropN id q.cells 0 f=f q.cells:=fun {q id f}=>rfl
 have e5:∀ {q:Stp} {id:Nat} {f:List V→R},takeN id q.cells 4 f=f q.cells:=fun {q id f}=>rfl
 have e6:∀ {id:Nat} {f:List V→R},setAt id [.int 3 0, .int 3 0, .int 3 0, .str 0 0] stp0.cells 0 f=f stp0.cells:=fun {id f}=>rfl
 by_cases hm:mayS s=true
 ·rw [hm] at z1'
  rw [if_pos hm,if_pos hm]
  refine ⟨G1.put Rb (.cells s.cells),(fG.trans f1).put hH hR1,by rw [Heap.get_put hw1 hR1,if_pos rfl],by rw [Heap.n_put];exact n1,fun d kn kx e x h2 h7 hx => ?_⟩
  simp only [go_sem,↓op_app,reduceCtorEq,Nat.reduceAdd,Nat.reduceSub,Nat.reduceMul,Nat.reduceEqDiff,Nat.reduceLT,Nat.reduceDiv,Nat.reduceMod,Nat.reduceLeDiff,↓reduceIte,c29q8,c29q9,c29q10,h2,h7,gS,gS1,gR1,z1',hw1,hR1,e1,e2,e3,e7,e4,e5]
  refine hx _ ?_ ?_ <;> simp only [go_sem,reduceCtorEq,↓reduceIte,h2]
 ·have hm':mayS s=false:=by simpa using hm
  rw [hm'] at z1'
  rw [if_neg hm,if_neg hm]
  refine ⟨G1.put Rb (.cells stp0.cells),(fG.trans f1).put hH hR1,by rw [Heap.get_put hw1 hR1,if_pos rfl],by rw [Heap.n_put];exact n1,fun d kn kx e x h2 h7 hx => ?_⟩
  simp only [go_sem,↓op_app,reduceCtorEq,Nat.reduceAdd,Nat.reduceSub,Nat.reduceMul,Nat.reduceEqDiff,Nat.reduceLT,Nat.reduceDiv,Nat.reduceMod,Nat.reduceLeDiff,↓reduceIte,c29q8,h2,h7,gS,gS1,gR1,z1',hw1,hR1,e1,e2,e3,e7,e4,e5,e6]
  refine hx _ ?_ ?_ <;> simp only [go_sem,reduceCtorEq,↓reduceIte,h2]
theorem rstep_q7 (T:TCode t) {G:Heap} {Rb B S i:Nat} {r:KRow} {s:Stp} (h:KH H G Rb B S s) (hri:kindsT[i]? = some r) (hi:i<12) {b o c z:Nat} {F:List (List UInt8)} {row:List V} (hF:F.length<1000000) (gb:H.get b = .cells row) (hb:b<H.n) (hrow:∀ j w,F[j]? = some w→row[o+j]? = some (tv w)) (hn:F.length=needN r) :
  ∃ G',KH H G' Rb B S { s with d:=if r.d=true then F.getD (needN r-1) [] else s.d } ∧ ∀ (ph:Phi) (kn:KE) (kx:Nat→KE) (e:Env) (x:R),EK (.slice b o F.length c z) Rb B i e→pget ⟨.i0, .i0, .i6⟩ e = .int 3 (needN r)→pget ⟨.i0, .i0, .i7⟩ e = .ptr S 0 →
   (∀ e',pget ⟨.i0, .i0, .i2⟩ e' = .ptr Rb 0→pget ⟨.i0, .i0, .i7⟩ e' = .ptr S 0→evC c29q8 fuel ph e' G' kn kx=x)→evC c29q7 fuel ph e G kn kx=x:=by
 have n1:nn i:=by unfold nn;omega
 have n2:i<9223372036854775808:=by omega
 have rd:∀ {id:Nat} {f:V→R},nth id rowsR (i * 4+3) f=f (.bool r.d):=fun {id f}=>nth_get (rowsR_get hri (by decide) rfl)
 have gB:=h.gB
 by_cases hd:r.d=true
 ·rw [if_pos hd]
  obtain ⟨n3,n4⟩:=needN_le r
  have m1:(needN r+18446744073709551615) % 18446744073709551616=needN r-1:=by omega
  have m2:nn (needN r-1):=by unfold nn;omega
  have m3:needN r-1<F.length:=by omega
  have m4:needN r-1<9223372036854775808:=by omega
  have g1:F[needN r-1]? = some (F.getD (needN r-1) []):=by
   rw [List.getElem?_eq_getElem m3,List.getD_eq_getElem?_getD,List.getElem?_eq_getElem m3]
   rfl
  have e1:∀ {id:Nat} {f:V→R},nth id row (o+(needN r-1)) f=f (tv (F.getD (needN r-1) [])):=fun {id f}=>nth_get (hrow _ _ g1)
  have gb':G.get b = .cells row:=(h.f.same b hb).trans gb
  have gS:=h.gS
  have lS:=h.lS
  have hw:=h.f.wf
  have e2:∀ {id:Nat} {f:List V→R},setAt id [tv (F.getD (needN r-1) [])] s.cells 3 f=f ({ s with d:=F.getD (needN r-1) [] }:Stp).cells:=fun {id f}=>setAt_one (by simp [Stp.cells])
  have rd':=hd
  refine ⟨_,h.put (s':={ s with d:=F.getD (needN r-1) [] }),fun ph kn kx e x E h6 h7 hx => ?_⟩
  have q0:=E.a0
  have q2:=E.a2
  have q4:=E.a4
  have q5:=E.a5
  have hl:F.length<9223372036854775808:=by omega
  simp only [go_sem,↓op_app,reduceCtorEq,Nat.reduceAdd,Nat.reduceSub,Nat.reduceMul,Nat.reduceEqDiff,Nat.reduceLT,Nat.reduceDiv,Nat.reduceMod,Nat.reduceLeDiff,↓reduceIte,c29q7,q0,q4,q5,h6,h7,n1,n2,hi,gB,rd,hd,m1,m2,m3,m4,hl,gb',e1,isOne_tv,gS,e2,hw,lS]
  refine hx _ ?_ ?_ <;> simp only [go_sem,reduceCtorEq,↓reduceIte,q2,h7]
 ·rw [if_neg hd]
  have hd':r.d=false:=by simpa using hd
  rw [hd'] at rd
  refine ⟨G,h,fun ph kn kx e x E h6 h7 hx => ?_⟩
  have q2:=E.a2
  have q4:=E.a4
  have q5:=E.a5
  simp only [go_sem,↓op_app,reduceCtorEq,Nat.reduceAdd,Nat.reduceSub,Nat.reduceMul,Nat.reduceEqDiff,Nat.reduceLT,Nat.reduceDiv,Nat.reduceMod,Nat.reduceLeDiff,↓reduceIte,c29q7,q4,q5,n1,n2,hi,gB,rd]
  refine hx _ ?_ ?_ <;> simp only [go_sem,reduceCtorEq,↓reduceIte,q2,h7]
theorem rstep_q6 (T:TCode t) (N:NumOK num) (hfu:100<fuel) {G:Heap} {Rb B S i:Nat} {r:KRow} {s:Stp} (h:KH H G Rb B S s) (hri:kindsT[i]? = some r) (hi:i<12) {b o c z:Nat} {F:List (List UInt8)} {row:List V} (hF:F.length<1000000) (gb:H.get b = .cells row) (hb:b<H.n) (hrow:∀ j w,F[j]? = some w→row[o+j]? = some (tv w)) (hn:F.length=needN r) (hx:∀ w ∈ F,w.length≤16777216) (hs:s.b=0) :
  ∃ G',KH H G' Rb B S { s with b:=if r.b=neg1 then 0 else numR num (F.getD 2 []) } ∧ ∀ (d:Nat) (kn:KE) (kx:Nat→KE) (e:Env) (x:R),EK (.slice b o F.length c z) Rb B i e→pget ⟨.i0, .i0, .i6⟩ e = .int 3 (needN r)→pget ⟨.i0, .i0, .i7⟩ e = .ptr S 0 →
   (∀ e',EK (.slice b o F.length c z) Rb B i e'→pget ⟨.i0, .i0, .i6⟩ e' = .int 3 (needN r)→pget ⟨.i0, .i0, .i7⟩ e' = .ptr S 0→evC c29q7 fuel (evP cp t fuel (d+5)) e' G' kn kx=x)→evC c29q6 fuel (evP cp t fuel (d+5)) e G kn kx=x:=by
 have n1:nn i:=by unfold nn;omega
 have n2:i<9223372036854775808:=by omega
 have rb:∀ {id:Nat} {f:V→R},nth id rowsR (i * 4+2) f=f (.int 3 r.b):=fun {id f}=>nth_get (rowsR_get hri (by decide) rfl)
 have gB:=h.gB
 obtain ⟨ka,kb⟩:=kinds_ok r (List.mem_of_getElem? hri)
 by_cases hb2:r.b=neg1
 ·rw [if_pos hb2]
  have hc:(evCF (.ge 9223372036854775808 18446744073709551616) r.b 0=true)=False:=by
   rw [ge0 (by rw [hb2];decide),hb2];exact eq_false (by decide)
  refine ⟨G,by rw [← hs];exact h,fun d kn kx e x E h6 h7 hx => ?_⟩
  have q0:=E.a0
  have q2:=E.a2
  have q4:=E.a4
  have q5:=E.a5
  simp only [go_sem,↓op_app,reduceCtorEq,Nat.reduceAdd,Nat.reduceSub,Nat.reduceMul,Nat.reduceEqDiff,Nat.reduceLT,Nat.reduceDiv,Nat.reduceMod,Nat.reduceLeDiff,↓reduceIte,c29q6,q4,q5,n1,n2,hi,gB,rb,hc]
  refine hx _ ⟨?_, ?_, ?_, ?_⟩ ?_ ?_ <;> simp only [go_sem,reduceCtorEq,↓reduceIte,q0,q2,q4,q5,h6,h7]
 ·rw [if_neg hb2]
  have kb':r.b<10000:=by
   rcases kb with h | h
   ·exact absurd h hb2
   ·exact h
  have hc:(evCF (.ge 9223372036854775808 18446744073709551616) r.b 0=true)=True:=by
   rw [ge0 (by omega)];exact eq_true (by omega)
  have n3:3≤needN r:=by unfold needN;rw [if_neg hb2];omega
  have m3:2<F.length:=by omega
  have g1:F[2]? = some (F.getD 2 []):=by
   rw [List.getElem?_eq_getElem m3,List.getD_eq_getElem?_getD,List.getElem?_eq_getElem m3]
   rfl
  have e1:∀ {id:Nat} {f:V→R},nth id row (o+2) f=f (tv (F.getD 2 [])):=fun {id f}=>nth_get (hrow _ _ g1)
  have gb':G.get b = .cells row:=(h.f.same b hb).trans gb
  have hxl:=hx _ (List.mem_of_getElem? g1)
  obtain ⟨G1,f1,z1⟩:=rnum_call (cp:=cp) (fuel:=fuel) T N h.f.wf hfu (s:=F.getD 2 []) (by omega)
  have h1:=h.fresh f1
  have gS:=h1.gS
  have lS:=h1.lS
  have hw:=h1.f.wf
  have e2:∀ {id:Nat} {f:List V→R},setAt id [.int 3 (numR num (F.getD 2 []))] s.cells 2 f=f ({ s with b:=numR num (F.getD 2 []) }:Stp).cells:=fun {id f}=>setAt_one (by simp [Stp.cells])
  have hl:F.length<9223372036854775808:=by omega
  refine ⟨_,h1.put (s':={ s with b:=numR num (F.getD 2 []) }),fun d kn kx e x E h6 h7 hx => ?_⟩
  have z1':=fun {k:K}=>z1 d k
  have q0:=E.a0
  have q2:=E.a2
  have q4:=E.a4
  have q5:=E.a5
  simp only [go_sem,↓op_app,reduceCtorEq,Nat.reduceAdd,Nat.reduceSub,Nat.reduceMul,Nat.reduceEqDiff,Nat.reduceLT,Nat.reduceDiv,Nat.reduceMod,Nat.reduceLeDiff,↓reduceIte,c29q6,q0,q4,q5,h6,h7,n1,n2,hi,gB,rb,hc,hl,m3,gb',e1,isOne_tv,z1',gS,e2,hw,lS]
  refine hx _ ⟨?_, ?_, ?_, ?_⟩ ?_ ?_ <;> simp only [go_sem,reduceCtorEq,↓reduceIte,q0,q2,q4,q5,h6,h7]
theorem numR_lt {s:List UInt8}:numR num s<18446744073709551616:=by
 unfold numR
 by_cases h:num s<10000
 ·rw [if_pos h];omega
 ·rw [if_neg h];decide
theorem rstep_q5 (T:TCode t) (N:NumOK num) (hfu:100<fuel) {G:Heap} {Rb B i:Nat} {r:KRow} (f:Fresh H G) (gB:G.get B = .cells rowsR) (gR:G.get Rb = .cells stp0.cells) (hR:H.n≤Rb) (lB:B<G.n) (lR:Rb<G.n) (hri:kindsT[i]? = some r) (hi:i<12) {b o c z:Nat} {F:List (List UInt8)} {row:List V} (hF:F.length<1000000) (gb:H.get b = .cells row) (hb:b<H.n) (hrow:∀ j w,F[j]? = some w→row[o+j]? = some (tv w)) (hn:F.length=needN r) (hx:∀ w ∈ F,w.length≤16777216) :
  ∃ G',Fresh H G'∧G'.get Rb = .cells (if mayS (stepK num i r F)=true then stepK num i r F else stp0).cells∧Rb<G'.n ∧ ∀ (d:Nat) (kn:KE) (kx:Nat→KE) (e:Env) (x:R),EK (.slice b o F.length c z) Rb B i e→pget ⟨.i0, .i0, .i6⟩ e = .int 3 (needN r) →
   (∀ e',pget ⟨.i0, .i0, .i2⟩ e' = .ptr Rb 0→pget ⟨.i0, .i0, .i3⟩ e' = .int 3 (if mayS (stepK num i r F)=true then 0 else 4)→kx 0 e' G'=x)→evC c29q5 fuel (evP cp t fuel (d+5)) e G kn kx=x:=by
 obtain ⟨n3,n4⟩:=needN_le r
 have m3:1<F.length:=by omega
 have g1:F[1]? = some (F.getD 1 []):=by
  rw [List.getElem?_eq_getElem m3,List.getD_eq_getElem?_getD,List.getElem?_eq_getElem m3]
  rfl
 have e1:∀ {id:Nat} {f:V→R},nth id row (o+1) f=f (tv (F.getD 1 [])):=fun {id f}=>nth_get (hrow _ _ g1)
 have gb':G.get b = .cells row:=(f.same b hb).trans gb
 have hxl:=hx _ (List.mem_of_getElem? g1)
 have hfn:=f.n
 obtain ⟨G1,f1,z1⟩:=rnum_call (cp:=cp) (fuel:=fuel) T N f.wf hfu (s:=F.getD 1 []) (by omega)
 have hw1:=f1.wf
 have hn1:=f1.n
 generalize hG2:(G1.new (.cells [.int 3 0, .int 3 0, .int 3 0, .str 0 0])).put G1.n (.cells (⟨i,numR num (F.getD 1 []),0,[]⟩:Stp).cells)=G2
 have f12:Fresh G1 (G1.new (.cells [.int 3 0, .int 3 0, .int 3 0, .str 0 0])):=Fresh.new hw1
 have f2:Fresh G1 G2:=by rw [← hG2];exact f12.put (Nat.le_refl _) (by rw [Heap.n_new];omega)
 have g2n:G2.n=G1.n+1:=by rw [← hG2,Heap.n_put,Heap.n_new]
 have g2S:G2.get G1.n = .cells (⟨i,numR num (F.getD 1 []),0,[]⟩:Stp).cells:=by rw [← hG2,Heap.get_put f12.wf (by rw [Heap.n_new];omega),if_pos rfl]
 have k0:KH H G2 Rb B G1.n ⟨i,numR num (F.getD 1 []),0,[]⟩:=⟨f.trans (f1.trans f2),((f1.trans f2).same B lB).trans gB,((f1.trans f2).same Rb lR).trans gR,g2S,hR,by omega,by omega,by omega,by omega,by omega,by omega⟩
 obtain ⟨G3,k3,z3⟩:=rstep_q6 (cp:=cp) (fuel:=fuel) (c:=c) (z:=z) T N hfu k0 hri hi hF gb hb hrow hn hx rfl
 obtain ⟨G4,k4,z4⟩:=rstep_q7 (fuel:=fuel) (c:=c) (z:=z) T k3 hri hi hF gb hb hrow hn
 have hS:({ ({ (⟨i,numR num (F.getD 1 []),0,[]⟩:Stp) with b:=if r.b=neg1 then 0 else numR num (F.getD 2 []) }:Stp) with d:=if r.d=true then F.getD (needN r-1) [] else [] }:Stp)=stepK num i r F:=rfl
 rw [hS] at k4
 have sok:StOK (stepK num i r F):=by
  refine ⟨by show i<_;omega,numR_lt, ?_, ?_⟩
  ·show (if r.b=neg1 then 0 else numR num (F.getD 2 []))<_
   split
   ·omega
   ·exact numR_lt
  ·show (if r.d=true then F.getD (needN r-1) [] else []).length<_
   split
   ·have m5:needN r-1<F.length:=by omega
    have g5:F[needN r-1]? = some (F.getD (needN r-1) []):=by
     rw [List.getElem?_eq_getElem m5,List.getD_eq_getElem?_getD,List.getElem?_eq_getElem m5]
     rfl
    have:=hx _ (List.mem_of_getElem? g5)
    omega
   ·simp
 obtain ⟨G5,f5,g5,n5,z5⟩:=rstep_q8 (H:=H) (cp:=cp) (fuel:=fuel) T hfu k4.f.wf sok k4.gS k4.lS k4.gR k4.lR k4.RS k4.hR k4.f
 refine ⟨G5,f5,g5,by have:=k4.lR;omega,fun d kn kx e x E h6 hx => ?_⟩
 have z1':=fun {k:K}=>z1 d k
 have q0:=E.a0
 have q2:=E.a2
 have q4:=E.a4
 have q5:=E.a5
 have hl:F.length<9223372036854775808:=by omega
 have l1:G1.n<G1.n+1:=by omega
 have w2:(G1.new (.cells [.int 3 0, .int 3 0, .int 3 0, .str 0 0])).wf:=f12.wf
 have hG2':(G1.new (.cells [.int 3 0, .int 3 0, .int 3 0, .str 0 0])).put G1.n (.cells [.int 3 i, .int 3 (numR num (F.getD 1 [])), .int 3 0, .str 0 0])=G2:=hG2
 simp only [go_sem,↓op_app,reduceCtorEq,Nat.reduceAdd,Nat.reduceSub,Nat.reduceMul,Nat.reduceEqDiff,Nat.reduceLT,Nat.reduceDiv,Nat.reduceMod,Nat.reduceLeDiff,↓reduceIte,c29q5,q0,q5,hl,m3,gb',e1,isOne_tv,z1',hw1,l1,hG2']
 refine z3 d kn kx _ x ⟨?_, ?_, ?_, ?_⟩ ?_ ?_ fun e3 E3 h63 h73=>z4 _ kn kx e3 x E3 h63 h73 fun e4 h24 h74=>z5 (d+3) kn kx e4 x h24 h74 hx
 ·simp only [go_sem,reduceCtorEq,↓reduceIte,q0]
 ·simp only [go_sem,reduceCtorEq,↓reduceIte,q2]
 ·simp only [go_sem,reduceCtorEq,↓reduceIte,q4]
 ·simp only [go_sem,reduceCtorEq,↓reduceIte,q5]
 ·simp only [go_sem,reduceCtorEq,↓reduceIte,h6]
 ·simp only [go_sem,reduceCtorEq,↓reduceIte]
end
end Go.Ev
end
section
namespace Go.Ev
section
variable {t:Nat→Option FnE} {cp:RC→CodeE} {fuel:Nat} {H:Heap} {dec:List UInt8→Nat × Nat} {num:List UInt8→Nat}
theorem rstep_q1 (T:TCode t) (N:NumOK num) (hfu:100<fuel) {G:Heap} {Rb B i:Nat} {r:KRow} (f:Fresh H G) (gB:G.get B = .cells rowsR) (gR:G.get Rb = .cells stp0.cells) (hR:H.n≤Rb) (lB:B<G.n) (lR:Rb<G.n) (hri:kindsT[i]? = some r) (hi:i<12) {b o c z:Nat} {w0:List UInt8} {l:List (List UInt8)} {row:List V} (hF:(w0 :: l).length<1000000) (gb:H.get b = .cells row) (hb:b<H.n) (hrow:∀ j w,(w0 :: l)[j]? = some w→row[o+j]? = some (tv w)) (hk:kindB w0=some (i,r)) (hx:∀ w ∈ w0 :: l,w.length≤16777216) :
  ∃ G',Fresh H G'∧G'.get Rb = .cells (stepP num (w0 :: l)).1.cells∧Rb<G'.n ∧ ∀ (d:Nat) (kn:KE) (kx:Nat→KE) (e:Env) (x:R),EK (.slice b o (w0 :: l).length c z) Rb B i e →
   (∀ e',pget ⟨.i0, .i0, .i2⟩ e' = .ptr Rb 0→pget ⟨.i0, .i0, .i3⟩ e' = .int 3 (stepP num (w0 :: l)).2→kx 0 e' G'=x)→evC c29q1 fuel (evP cp t fuel (d+5)) e G kn kx=x:=by
 have n1:nn i:=by unfold nn;omega
 have n2:i<9223372036854775808:=by omega
 have rb:∀ {id:Nat} {f:V→R},nth id rowsR (i * 4+2) f=f (.int 3 r.b):=fun {id f}=>nth_get (rowsR_get hri (by decide) rfl)
 have rd:∀ {id:Nat} {f:V→R},nth id rowsR (i * 4+3) f=f (.bool r.d):=fun {id f}=>nth_get (rowsR_get hri (by decide) rfl)
 obtain ⟨ka,kb⟩:=kinds_ok r (List.mem_of_getElem? hri)
 have toQ4:∀ (d:Nat) (kn:KE) (kx:Nat→KE) (e:Env) (x:R),EK (.slice b o (w0 :: l).length c z) Rb B i e→(∀ e',EK (.slice b o (w0 :: l).length c z) Rb B i e'→pget ⟨.i0, .i0, .i6⟩ e' = .int 3 (needN r)→evC c29q4 fuel (evP cp t fuel (d+5)) e' G kn kx=x)→evC c29q1 fuel (evP cp t fuel (d+5)) e G kn kx=x:=fun d kn kx e x E hx=>by
  have q0:=E.a0
  have q2:=E.a2
  have q4:=E.a4
  have q5:=E.a5
  by_cases hb2:r.b=neg1
  ·have hc:(evCF (.ge 9223372036854775808 18446744073709551616) r.b 0=true)=False:=by
    rw [ge0 (by rw [hb2];decide),hb2];exact eq_false (by decide)
   by_cases hd:r.d=true
   ·have hn:needN r=3:=by unfold needN;rw [if_pos hb2,if_pos hd]
    rw [hn] at hx
    rw [hd] at rd
    simp only [go_sem,↓op_app,reduceCtorEq,Nat.reduceAdd,Nat.reduceSub,Nat.reduceMul,Nat.reduceEqDiff,Nat.reduceLT,Nat.reduceDiv,Nat.reduceMod,Nat.reduceLeDiff,↓reduceIte,c29q1,c29q2,c29q3,q4,q5,n1,n2,hi,gB,rb,rd,hc]
    refine hx _ ⟨?_, ?_, ?_, ?_⟩ ?_ <;> simp only [go_sem,reduceCtorEq,↓reduceIte,q0,q2,q4,q5]
   ·have hd':r.d=false:=by simpa using hd
    have hn:needN r=2:=by unfold needN;rw [if_pos hb2,if_neg hd]
    rw [hn] at hx
    rw [hd'] at rd
    simp only [go_sem,↓op_app,reduceCtorEq,Nat.reduceAdd,Nat.reduceSub,Nat.reduceMul,Nat.reduceEqDiff,Nat.reduceLT,Nat.reduceDiv,Nat.reduceMod,Nat.reduceLeDiff,↓reduceIte,c29q1,c29q2,c29q3,q4,q5,n1,n2,hi,gB,rb,rd,hc]
    refine hx _ ⟨?_, ?_, ?_, ?_⟩ ?_ <;> simp only [go_sem,reduceCtorEq,↓reduceIte,q0,q2,q4,q5]
  ·have kb':r.b<10000:=by
    rcases kb with h | h
    ·exact absurd h hb2
    ·exact h
   have hc:(evCF (.ge 9223372036854775808 18446744073709551616) r.b 0=true)=True:=by
    rw [ge0 (by omega)];exact eq_true (by omega)
   by_cases hd:r.d=true
   ·have hn:needN r=4:=by unfold needN;rw [if_neg hb2,if_pos hd]
    rw [hn] at hx
    rw [hd] at rd
    simp only [go_sem,↓op_app,reduceCtorEq,Nat.reduceAdd,Nat.reduceSub,Nat.reduceMul,Nat.reduceEqDiff,Nat.reduceLT,Nat.reduceDiv,Nat.reduceMod,Nat.reduceLeDiff,↓reduceIte,c29q1,c29q2,c29q3,q4,q5,n1,n2,hi,gB,rb,rd,hc]
    refine hx _ ⟨?_, ?_, ?_, ?_⟩ ?_ <;> simp only [go_sem,reduceCtorEq,↓reduceIte,q0,q2,q4,q5]
   ·have hd':r.d=false:=by simpa using hd
    have hn:needN r=3:=by unfold needN;rw [if_neg hb2,if_neg hd]
    rw [hn] at hx
    rw [hd'] at rd
    simp only [go_sem,↓op_app,reduceCtorEq,Nat.reduceAdd,Nat.reduceSub,Nat.reduceMul,Nat.reduceEqDiff,Nat.reduceLT,Nat.reduceDiv,Nat.reduceMod,Nat.reduceLeDiff,↓reduceIte,c29q1,c29q2,c29q3,q4,q5,n1,n2,hi,gB,rb,rd,hc]
    refine hx _ ⟨?_, ?_, ?_, ?_⟩ ?_ <;> simp only [go_sem,reduceCtorEq,↓reduceIte,q0,q2,q4,q5]
 have hl:(w0 :: l).length<9223372036854775808:=by omega
 rw [stepK_eq N hk]
 by_cases hlen:(w0 :: l).length=needN r
 ·rw [if_pos hlen]
  obtain ⟨G',f',g',n',z'⟩:=rstep_q5 (cp:=cp) (fuel:=fuel) (c:=c) (z:=z) T N hfu f gB gR hR lB lR hri hi hF gb hb hrow hlen hx
  have e1:(if mayS (stepK num i r (w0 :: l))=true then (stepK num i r (w0 :: l),0) else (stp0,4)).1=(if mayS (stepK num i r (w0 :: l))=true then stepK num i r (w0 :: l) else stp0):=by split <;> rfl
  have e2:(if mayS (stepK num i r (w0 :: l))=true then (stepK num i r (w0 :: l),0) else (stp0,4)).2=(if mayS (stepK num i r (w0 :: l))=true then 0 else 4):=by split <;> rfl
  rw [e1,e2]
  refine ⟨G',f',g',n',fun d kn kx e x E hx=>toQ4 d kn kx e x E fun e1 E1 h6 => ?_⟩
  have q0:=E1.a0
  have q2:=E1.a2
  have q4:=E1.a4
  have q5:=E1.a5
  have hlen':=eq_true hlen
  rw [List.length_cons] at q0 hlen' hl
  simp only [go_sem,↓op_app,reduceCtorEq,Nat.reduceAdd,Nat.reduceSub,Nat.reduceMul,Nat.reduceEqDiff,Nat.reduceLT,Nat.reduceDiv,Nat.reduceMod,Nat.reduceLeDiff,↓reduceIte,c29q4,q0,h6,hl,hlen']
  refine z' d kn kx _ x ⟨?_, ?_, ?_, ?_⟩ ?_ hx <;> simp only [go_sem,reduceCtorEq,↓reduceIte,q0,q2,q4,q5,h6]
 ·rw [if_neg hlen]
  have hw:=f.wf
  have e6:∀ {id:Nat} {f:List V→R},setAt id [.int 3 0, .int 3 0, .int 3 0, .str 0 0] stp0.cells 0 f=f stp0.cells:=fun {id f}=>rfl
  refine ⟨G.put Rb (.cells stp0.cells),f.put hR lR,by rw [Heap.get_put hw lR,if_pos rfl],by rw [Heap.n_put];exact lR,fun d kn kx e x E hx=>toQ4 d kn kx e x E fun e1 E1 h6 => ?_⟩
  have q0:=E1.a0
  have q2:=E1.a2
  have hlen':=eq_false hlen
  rw [List.length_cons] at q0 hlen' hl
  simp only [go_sem,↓op_app,reduceCtorEq,Nat.reduceAdd,Nat.reduceSub,Nat.reduceMul,Nat.reduceEqDiff,Nat.reduceLT,Nat.reduceDiv,Nat.reduceMod,Nat.reduceLeDiff,↓reduceIte,c29q4,q0,q2,h6,hl,hlen',gR,e6,hw,lR]
  refine hx _ ?_ ?_ <;> simp only [go_sem,reduceCtorEq,↓reduceIte,q2]
theorem rstep_loop {G:Heap} (hw:G.wf) {Rb B:Nat} (gB:G.get B = .cells rowsR) {b o c z:Nat} {w0:List UInt8} {l:List (List UInt8)} {row:List V} (hF:(w0 :: l).length<1000000) (gb:G.get b = .cells row) (hrow:row[o]? = some (tv w0)) :
  ∀ (m i:Nat),i+m=12→findK (kindsT.drop i) i w0=kindB w0 → ∀ (ph:Phi) (kx:Nat→KE) (r:Nat) (e:Env),m<r→EK (.slice b o (w0 :: l).length c z) Rb B i e →
   ∀ x:R,(kindB w0=none → ∀ e',pget ⟨.i0, .i0, .i2⟩ e' = .ptr Rb 0→kx 1 e' G=x) →
   (∀ i r,i<12→kindsT[i]? = some r→kindB w0=some (i,r) → ∀ (e':Env) (kn':KE) (kx':Nat→KE),(∀ e'' H'',kx' 0 e'' H''=kx 0 e'' H'')→EK (.slice b o (w0 :: l).length c z) Rb B i e'→evC c29q1 fuel ph e' G kn' kx'=x) →
   evL c29l0 fuel ph kx r e G=x:=by
 intro m
 induction m with
 | zero=>
  intro i hi hk ph kx r e hr E x hN hY
  obtain ⟨r,rfl⟩:∃ q,r=q+1:=⟨r-1,by omega⟩
  obtain rfl:i=12:=by omega
  have q2:=E.a2
  have q4:=E.a4
  have q5:=E.a5
  rw [evL_succ]
  simp only [go_sem,↓op_app,reduceCtorEq,Nat.reduceAdd,Nat.reduceSub,Nat.reduceMul,Nat.reduceEqDiff,Nat.reduceLT,Nat.reduceDiv,Nat.reduceMod,Nat.reduceLeDiff,↓reduceIte,c29l0,q4,q5]
  exact hN hk.symm _ (by simp only [go_sem,reduceCtorEq,↓reduceIte,q2])
 | succ m ih=>
  intro i hi hk ph kx r e hr E x hN hY
  obtain ⟨r,rfl⟩:∃ q,r=q+1:=⟨r-1,by omega⟩
  have hi12:i<12:=by omega
  obtain ⟨kr,hkr⟩:∃ r,kindsT[i]? = some r:=⟨_,List.getElem?_eq_getElem (show i<kindsT.length from hi12)⟩
  have hdr:kindsT.drop i=kr :: kindsT.drop (i+1):=by
   obtain ⟨h1,h2⟩:=List.getElem?_eq_some_iff.1 hkr
   rw [← h2]
   exact List.drop_eq_getElem_cons h1
  rw [hdr,findK] at hk
  have q0:=E.a0
  have q2:=E.a2
  have q4:=E.a4
  have q5:=E.a5
  have n1:nn i:=by unfold nn;omega
  have n2:i<9223372036854775808:=by omega
  have n3:(i+1) % 18446744073709551616=i+1:=by omega
  have rw0:∀ {id:Nat} {f:V→R},nth id rowsR (i * 4) f=f (tv kr.w):=fun {id f}=>nth_get (rowsR_get (j:=0) hkr (by decide) rfl)
  have e1:∀ {id:Nat} {f:V→R},nth id row o f=f (tv w0):=fun {id f}=>nth_get hrow
  have hl:l.length+1<9223372036854775808:=by simp only [List.length_cons] at hF;omega
  have hl0:0<l.length+1:=by omega
  rw [List.length_cons] at q0
  rw [evL_succ]
  by_cases hw0:w0=kr.w
  ·rw [if_pos hw0] at hk
   have c1:(kr.w=w0)=True:=eq_true hw0.symm
   simp only [go_sem,↓op_app,reduceCtorEq,Nat.reduceAdd,Nat.reduceSub,Nat.reduceMul,Nat.reduceEqDiff,Nat.reduceLT,Nat.reduceDiv,Nat.reduceMod,Nat.reduceLeDiff,↓reduceIte,c29l0,q0,q4,q5,n1,n2,hi12,gB,gb,rw0,e1,hl,hl0,isOne_tv,vStr_tv,len_enc_eq,c1]
   refine hY i kr hi12 hkr hk.symm _ _ _ (fun _ _=>rfl) ⟨?_, ?_, ?_, ?_⟩ <;> simp only [go_sem,reduceCtorEq,↓reduceIte,q0,q2,q4,q5]
  ·rw [if_neg hw0] at hk
   have c1:(kr.w=w0)=False:=eq_false fun h=>hw0 h.symm
   simp only [go_sem,↓op_app,reduceCtorEq,Nat.reduceAdd,Nat.reduceSub,Nat.reduceMul,Nat.reduceEqDiff,Nat.reduceLT,Nat.reduceDiv,Nat.reduceMod,Nat.reduceLeDiff,↓reduceIte,c29l0,q0,q4,q5,n1,n2,n3,hi12,gB,gb,rw0,e1,hl,hl0,isOne_tv,vStr_tv,len_enc_eq,c1]
   refine ih (i+1) (by omega) hk ph kx r _ (by omega) ⟨?_, ?_, ?_, ?_⟩ x hN hY <;> simp only [go_sem,reduceCtorEq,↓reduceIte,q0,q2,q4,q5]
theorem rstep_call (T:TCode t) (N:NumOK num) (hw:H.wf) (hfu:100<fuel) {v:V} {w0:List UInt8} {l:List (List UInt8)} (hv:WS H v (w0 :: l)) (hl:(w0 :: l).length<1000000) (hx:∀ w ∈ w0 :: l,w.length≤16777216) :
  ∃ G,Fresh H G ∧ ∀ (d:Nat) (k:K),callP (evP cp t fuel (d+6)) (.func 58 []) [v] H k=k (.tup [.agg (stepP num (w0 :: l)).1.cells, .int 3 (stepP num (w0 :: l)).2]) G:=by
 rcases hv with ⟨_,h⟩ | ⟨_,b,o,c,s,row,rfl,g2,g3,g4,g5⟩
 ·cases h
 generalize hG1:H.new (.cells stp0.cells)=G1
 have f1:Fresh H G1:=by rw [← hG1];exact Fresh.new hw
 have g1n:G1.n=H.n+1:=by rw [← hG1,Heap.n_new]
 have g1R:G1.get H.n = .cells stp0.cells:=by rw [← hG1,Heap.get_new hw,if_pos rfl]
 have hw1:=f1.wf
 have zr:=fun {d:Nat} {k:K}=>rows_call (cp:=cp) (fuel:=fuel) (H:=G1) T hw1 d k
 generalize hG2:G1.new (.cells rowsR)=G2 at zr
 have f12:Fresh G1 G2:=by rw [← hG2];exact Fresh.new hw1
 have f2:=f1.trans f12
 have g2n:G2.n=H.n+1+1:=by rw [← hG2,Heap.n_new,g1n]
 have g2R:G2.get H.n = .cells stp0.cells:=(f12.same _ (by omega)).trans g1R
 have g2B:G2.get (H.n+1) = .cells rowsR:=by rw [← hG2,Heap.get_new hw1,if_pos g1n.symm]
 have hw2:=f2.wf
 have g2b:G2.get b = .cells row:=(f2.same b g4).trans g3
 have hG1':H.new (.cells [.int 3 0, .int 3 0, .int 3 0, .str 0 0])=G1:=hG1
 rw [g1n] at zr
 have e6:∀ {id:Nat} {f:List V→R},setAt id [.int 3 0, .int 3 0, .int 3 0, .str 0 0] stp0.cells 0 f=f stp0.cells:=fun {id f}=>rfl
 have t4:∀ {q:Stp},List.take 4 q.cells=q.cells:=fun {q}=>rfl
 have t5:∀ {q:Stp} {id:Nat} {x:R},allOne id q.cells x=x:=fun {q id x}=>rfl
 have t6:∀ {q:Stp} {id:Nat} {f:List V→R},dropN id q.cells 0 f=f q.cells:=fun {q id f}=>rfl
 have t7:∀ {q:Stp} {id:Nat} {f:List V→R},takeN id q.cells 4 f=f q.cells:=fun {q id f}=>rfl
 have lR:H.n<G2.n:=by omega
 cases hk:kindB w0 with
 | none=>
  have hs:stepP num (w0 :: l)=(stp0,15):=by
   unfold stepP
   rw [show kindB ((w0 :: l).headD [])=none from hk]
  rw [hs]
  refine ⟨G2.put H.n (.cells stp0.cells),f2.put (Nat.le_refl _) lR,fun d k => ?_⟩
  have g9:(G2.put H.n (.cells stp0.cells)).get H.n = .cells stp0.cells:=by rw [Heap.get_put hw2 lR,if_pos rfl]
  rw [call_entry T.k29 rfl rfl]
  simp only [go_sem,↓op_app,reduceCtorEq,Nat.reduceAdd,Nat.reduceSub,Nat.reduceMul,Nat.reduceEqDiff,Nat.reduceLT,Nat.reduceDiv,Nat.reduceMod,Nat.reduceLeDiff,↓reduceIte,c29,c29r1,c29r2,hw,hG1',zr]
  refine rstep_loop (Rb:=H.n) (B:=H.n+1) (c:=c) (z:=s) hw2 g2B hl g2b (by simpa using g5 0 w0 rfl) 12 0 (by omega) rfl _ _ fuel _ (by omega) ⟨?_, ?_, ?_, ?_⟩ _ (fun _ e' q2 => ?_) (fun i r _ _ h=>by rw [hk] at h;cases h)
  ·simp only [go_sem,reduceCtorEq,↓reduceIte]
  ·simp only [go_sem,reduceCtorEq,↓reduceIte]
  ·simp only [go_sem,reduceCtorEq,↓reduceIte]
  ·simp only [go_sem,reduceCtorEq,↓reduceIte]
  ·simp only [go_sem,↓op_app,reduceCtorEq,Nat.reduceAdd,Nat.reduceSub,Nat.reduceMul,Nat.reduceEqDiff,Nat.reduceLT,Nat.reduceDiv,Nat.reduceMod,Nat.reduceLeDiff,↓reduceIte,c29r3,c29r4,q2,g2R,e6,hw2,lR,retF_At,t4,t5,t6,t7]
 | some p=>
  obtain ⟨i,r⟩:=p
  obtain ⟨hrm,_,hi,hri,_⟩:=findK_mem kindsT 0 w0 i r hk
  rw [Nat.sub_zero] at hri
  have hi12:i<12:=by rw [Nat.zero_add] at hi;exact hi
  obtain ⟨G3,f3,g3R,n3,z3⟩:=rstep_q1 (cp:=cp) (fuel:=fuel) (c:=c) (z:=s) T N hfu f2 g2B g2R (Nat.le_refl _) (by omega) lR hri hi12 hl g3 g4 g5 hk hx
  refine ⟨G3,f3,fun d k => ?_⟩
  rw [call_entry T.k29 rfl rfl]
  simp only [go_sem,↓op_app,reduceCtorEq,Nat.reduceAdd,Nat.reduceSub,Nat.reduceMul,Nat.reduceEqDiff,Nat.reduceLT,Nat.reduceDiv,Nat.reduceMod,Nat.reduceLeDiff,↓reduceIte,c29,c29r1,c29r2,hw,hG1',zr]
  refine rstep_loop (Rb:=H.n) (B:=H.n+1) (c:=c) (z:=s) hw2 g2B hl g2b (by simpa using g5 0 w0 rfl) 12 0 (by omega) rfl _ _ fuel _ (by omega) ⟨?_, ?_, ?_, ?_⟩ _ (fun h=>by rw [hk] at h;cases h) (fun i' r' _ _ h e' kn' kx' hkx E => ?_)
  ·simp only [go_sem,reduceCtorEq,↓reduceIte]
  ·simp only [go_sem,reduceCtorEq,↓reduceIte]
  ·simp only [go_sem,reduceCtorEq,↓reduceIte]
  ·simp only [go_sem,reduceCtorEq,↓reduceIte]
  ·rw [hk] at h
   cases h
   refine z3 d kn' kx' e' _ E fun e9 q2 q3 => ?_
   rw [hkx]
   simp only [go_sem,↓op_app,reduceCtorEq,Nat.reduceAdd,Nat.reduceSub,Nat.reduceMul,Nat.reduceEqDiff,Nat.reduceLT,Nat.reduceDiv,Nat.reduceMod,Nat.reduceLeDiff,↓reduceIte,retF_At,q2,q3,g3R,t4,t5,t6,t7]
end
end Go.Ev
end
section
namespace Go.Ev
def endP (s:List UInt8):Nat:=(findB 10 s).getD s.length
theorem endP_le (s:List UInt8):endP s≤s.length:=by
 unfold endP
 cases h:findB 10 s with
 | none=>exact Nat.le_refl _
 | some i=>exact Nat.le_of_lt (findB_some h).1
theorem parseGo_line {num:List UInt8→Nat} {s:List UInt8} {a:Nat} {acc:List Stp} (hs:s≠[]) :
  parseGo num (linesP s) a acc=match lineP (s.take (endP s)) with
   | none=>parseGo num (linesP (s.drop (min (endP s+1) s.length))) (a+1) acc
   | some F=>if (stepP num F).2≠0 then .error ((stepP num F).2,a) else if acc.length=4096 then .error (3,a) else parseGo num (linesP (s.drop (min (endP s+1) s.length))) (a+1) (acc ++ [(stepP num F).1]):=by
 cases h:findB 10 s with
 | none=>
  have he:endP s=s.length:=by unfold endP;rw [h];rfl
  rw [he,findB_none h,List.take_length,Nat.min_eq_right (by omega),List.drop_length,parseGo]
  have hn:∀ a acc,parseGo num (linesP []) a acc = .ok acc:=fun a acc=>parseGo_nil num a acc
  simp only [hn]
  rfl
 | some i=>
  have he:endP s=i:=by unfold endP;rw [h];rfl
  obtain ⟨h1,h2⟩:=findB_some h
  rw [he,h2,Nat.min_eq_left (by omega),parseGo]
  cases lineP (s.take i) <;> rfl
section
variable {t:Nat→Option FnE} {cp:RC→CodeE} {fuel:Nat} {H:Heap} {dec:List UInt8→Nat × Nat} {num:List UInt8→Nat}
theorem rscan_loop {G:Heap} {s:List UInt8} (hs:s.length<9223372036854775808) {v3 v4 v5:V}:∀ (m i:Nat),i+m=s.length→findB 10 s=(findB 10 (s.drop i)).map (· + i) → ∀ (ph:Phi) (kx:Nat→KE) (r:Nat) (e:Env),m<r→pget ⟨.i0, .i0, .i0⟩ e=tv s→pget ⟨.i0, .i0, .i3⟩ e=v3→pget ⟨.i0, .i0, .i4⟩ e=v4→pget ⟨.i0, .i0, .i5⟩ e=v5→pget ⟨.i0, .i0, .i6⟩ e = .int 3 i →
  ∀ x:R,(∀ e',pget ⟨.i0, .i0, .i0⟩ e'=tv s→pget ⟨.i0, .i0, .i3⟩ e'=v3→pget ⟨.i0, .i0, .i4⟩ e'=v4→pget ⟨.i0, .i0, .i5⟩ e'=v5→pget ⟨.i0, .i0, .i6⟩ e' = .int 3 (endP s)→kx 3 e' G=x)→evL c12l0 fuel ph kx r e G=x:=by
 intro m
 induction m with
 | zero=>
  intro i hi hf ph kx r e hr h0 h3 h4 h5 h6 x hx
  obtain ⟨r,rfl⟩:∃ q,r=q+1:=⟨r-1,by omega⟩
  obtain rfl:i=s.length:=by omega
  rw [List.drop_length] at hf
  have he:endP s=s.length:=by unfold endP;rw [hf];rfl
  have e1:nn s.length:=hs
  have e2:¬ s.length<s.length:=by omega
  rw [evL_succ]
  simp only [go_sem,↓op_app,reduceCtorEq,Nat.reduceAdd,Nat.reduceSub,Nat.reduceMul,Nat.reduceEqDiff,Nat.reduceLT,Nat.reduceDiv,Nat.reduceMod,Nat.reduceLeDiff,↓reduceIte,c12l0,h0,h6,vStr_tv,hs,e1,e2]
  refine hx _ ?_ ?_ ?_ ?_ ?_ <;> simp only [go_sem,↓op_app,reduceCtorEq,Nat.reduceAdd,Nat.reduceSub,Nat.reduceMul,Nat.reduceEqDiff,Nat.reduceLT,Nat.reduceDiv,Nat.reduceMod,Nat.reduceLeDiff,↓reduceIte,h0,h3,h4,h5,h6,he]
 | succ m ih=>
  intro i hi hf ph kx r e hr h0 h3 h4 h5 h6 x hx
  obtain ⟨r,rfl⟩:∃ q,r=q+1:=⟨r-1,by omega⟩
  have hlt:i<s.length:=by omega
  have hE:=enc_at s i hlt
  have hdr:s.drop i=s[i] :: s.drop (i+1):=List.drop_eq_getElem_cons hlt
  rw [hdr,findB] at hf
  have e1:nn i:=by unfold nn;omega
  have e2:nn s.length:=hs
  have e3:i<9223372036854775808:=by omega
  have e4:(i+1) % 18446744073709551616=i+1:=by omega
  generalize s[i]=b at hE hf
  rw [evL_succ]
  by_cases hb:b=10
  ·rw [if_pos hb] at hf
   have he:endP s=i:=by unfold endP;rw [hf];simp
   have q1:(b.toNat=10)=True:=eq_true (by rw [hb];rfl)
   simp only [go_sem,↓op_app,reduceCtorEq,Nat.reduceAdd,Nat.reduceSub,Nat.reduceMul,Nat.reduceEqDiff,Nat.reduceLT,Nat.reduceDiv,Nat.reduceMod,Nat.reduceLeDiff,↓reduceIte,c12l0,h0,h6,vStr_tv,hs,e1,e2,e3,e4,hlt,hE,q1]
   refine hx _ ?_ ?_ ?_ ?_ ?_ <;> simp only [go_sem,↓op_app,reduceCtorEq,Nat.reduceAdd,Nat.reduceSub,Nat.reduceMul,Nat.reduceEqDiff,Nat.reduceLT,Nat.reduceDiv,Nat.reduceMod,Nat.reduceLeDiff,↓reduceIte,h0,h3,h4,h5,h6,he]
  ·rw [if_neg hb] at hf
   have q1:(b.toNat=10)=False:=eq_false fun h=>hb (UInt8.toNat_inj.1 h)
   simp only [go_sem,↓op_app,reduceCtorEq,Nat.reduceAdd,Nat.reduceSub,Nat.reduceMul,Nat.reduceEqDiff,Nat.reduceLT,Nat.reduceDiv,Nat.reduceMod,Nat.reduceLeDiff,↓reduceIte,c12l0,h0,h6,vStr_tv,hs,e1,e2,e3,e4,hlt,hE,q1]
   refine ih (i+1) (by omega) ?_ ph kx r _ (by omega) ?_ ?_ ?_ ?_ ?_ x hx
   ·rw [hf,Option.map_map]
    congr 1
    funext q
    simp only [Function.comp]
    omega
   ·simp only [go_sem,reduceCtorEq,↓reduceIte,h0]
   ·simp only [go_sem,reduceCtorEq,↓reduceIte,h3]
   ·simp only [go_sem,reduceCtorEq,↓reduceIte,h4]
   ·simp only [go_sem,reduceCtorEq,↓reduceIte,h5]
   ·simp only [go_sem,reduceCtorEq,↓reduceIte]
structure RP (H G:Heap) (Fb:Nat) (vo:V) (acc:List Stp):Prop where
 f:Fresh H G
 hF:H.n≤Fb
 lF:Fb<G.n
 gF:G.get Fb = .cells [.int 3 0, .int 3 0]
 gv:Gr H G vo 4 acc.length (Stps acc)
 off:∀ i,i<Fb+1→Off vo i
theorem RP.fresh {G G':Heap} {Fb:Nat} {vo:V} {acc:List Stp} (h:RP H G Fb vo acc) (f:Fresh G G'):RP H G' Fb vo acc:=
 ⟨h.f.trans f,h.hF,Nat.lt_of_lt_of_le h.lF f.n,(f.same _ h.lF).trans h.gF,h.gv.fresh f,h.off⟩
structure EP (s:List UInt8) (a Fb:Nat) (vo:V) (e:Env):Prop where
 a0:pget ⟨.i0, .i0, .i0⟩ e=tv s
 a3:pget ⟨.i0, .i0, .i3⟩ e = .ptr Fb 0
 a4:pget ⟨.i0, .i0, .i4⟩ e=vo
 a5:pget ⟨.i0, .i0, .i5⟩ e = .int 3 a
set_option maxHeartbeats 1000000 in
set_option maxRecDepth 4000 in
theorem rparse_round (T:TCode t) (N:NumOK num) (hfu:1000001<fuel) {s:List UInt8} {a Fb:Nat} {acc:List Stp} {G:Heap} {vo:V} (hs0:s≠[]) (hs:s.length≤900000) (ha:a<1000000000) (hacc:acc.length≤4096) (h:RP H G Fb vo acc) :
  (∃ G1 vo1 acc1,RP H G1 Fb vo1 acc1∧acc1.length≤4096∧parseGo num (linesP s) a acc=parseGo num (linesP (s.drop (min (endP s+1) s.length))) (a+1) acc1 ∧ ∀ (d:Nat) (kx:Nat→KE) (r:Nat) (e:Env) (x:R),EP s a Fb vo e→(∀ e',EP (s.drop (min (endP s+1) s.length)) (a+1) Fb vo1 e'→evL c12l1 fuel (evP cp t fuel (d+6)) kx r e' G1=x)→evL c12l1 fuel (evP cp t fuel (d+6)) kx (r+1) e G=x) ∨
  ∃ G1 c,parseGo num (linesP s) a acc = .error (c,a)∧Fresh H G1∧Fb<G1.n∧G1.get Fb = .cells [.int 3 c, .int 3 a] ∧ ∀ (d:Nat) (kx:Nat→KE) (r:Nat) (e:Env) (x:R),EP s a Fb vo e→(∀ e',pget ⟨.i0, .i0, .i2⟩ e' = .nils→pget ⟨.i0, .i0, .i3⟩ e' = .ptr Fb 0→kx 0 e' G1=x)→evL c12l1 fuel (evP cp t fuel (d+6)) kx (r+1) e G=x:=by
 have hle:=endP_le s
 have hw:=h.f.wf
 obtain ⟨G1,vw,f1,gw,z1⟩:=rwords_call (cp:=cp) (fuel:=fuel) T hw hfu (s:=s.take (endP s)) (by rw [List.length_take];omega)
 have z1':=fun {d:Nat} {k:K}=>z1 d k
 have hw1:=f1.wf
 have h1:=h.fresh f1
 have hws:=gw.ws
 rw [parseGo_line hs0]
 obtain ⟨fl,fx⟩:=fields_len (s.take (endP s)) []
 have e0:0<s.length:=List.length_pos_iff.2 hs0
 have e1:nn s.length:=by unfold nn;omega
 have e2:s.length<9223372036854775808:=by omega
 have e3:nn (endP s):=by unfold nn;omega
 have e4:endP s<9223372036854775808:=by omega
 have e5:(endP s+1) % 18446744073709551616=endP s+1:=by omega
 have e6:nn (endP s+1):=by unfold nn;omega
 have e7:min (endP s+1) s.length<9223372036854775808:=by omega
 have e8:min (endP s+1) s.length≤s.length:=by omega
 have e9:(a+1) % 18446744073709551616=a+1:=by omega
 have eT:V.str (endP s-0) (enc s >>> 0 % 256 ^ (endP s-0))=tv (s.take (endP s)):=by
  show V.str (endP s-0) (enc s >>> (8 * 0) % 256 ^ (endP s-0))=_
  rw [str_sl (Nat.zero_le _) hle,List.drop_zero,Nat.sub_zero]
 have eD:V.str (s.length-min (endP s+1) s.length) (enc s >>> (8 * min (endP s+1) s.length) % 256 ^ (s.length-min (endP s+1) s.length))=tv (s.drop (min (endP s+1) s.length)):=by
  rw [str_sl e8 (Nat.le_refl _),List.take_of_length_le (by rw [List.length_drop];omega)]
 have hflen:(fieldsP (s.take (endP s))).length<999999:=by
  show (fieldsGo (s.take (endP s)) []).length<_
  rw [List.length_take] at fl
  omega
 have w3:∀ {id:Nat} {k:R},isOne id vw k=k:=fun {id k}=>hws.one
 cases hF:fieldsP (s.take (endP s)) with
 | nil=>
  have hlp:lineP (s.take (endP s))=none:=by unfold lineP;rw [if_pos (Or.inl hF)]
  rw [hlp]
  rw [hF] at gw
  obtain rfl:vw = .nils:=by
   rcases gw.2.2 with ⟨h,_⟩ | ⟨_,_,_,_,h,_⟩
   ·exact h
   ·simp at h
  refine Or.inl ⟨G1,vo,acc,h1,hacc,rfl,fun d kx r e x E hx => ?_⟩
  have q0:=E.a0
  have q3:=E.a3
  have q4:=E.a4
  have q5:=E.a5
  ·rw [evL_succ]
   simp only [go_sem,reduceCtorEq,Nat.reduceAdd,Nat.reduceSub,Nat.reduceMul,Nat.reduceEqDiff,Nat.reduceLT,Nat.reduceDiv,Nat.reduceMod,Nat.reduceLeDiff,↓reduceIte,c12l1,q0,vStr_tv,e0,e1,e2]
   refine rscan_loop (G:=G) (s:=s) (v3 := .ptr Fb 0) (v4:=vo) (v5 := .int 3 a) e2 s.length 0 (by omega) (by rw [List.drop_zero];simp) _ _ fuel _ (by omega) (by simp only [go_sem,reduceCtorEq,↓reduceIte,q0]) (by simp only [go_sem,reduceCtorEq,↓reduceIte,q3]) (by simp only [go_sem,reduceCtorEq,↓reduceIte,q4]) (by simp only [go_sem,reduceCtorEq,↓reduceIte,q5]) (by simp only [go_sem,reduceCtorEq,↓reduceIte]) x fun e' h0 h3 h4 h5 h6 => ?_
   simp only [go_sem,reduceCtorEq,Nat.reduceAdd,Nat.reduceSub,Nat.reduceMul,Nat.reduceEqDiff,Nat.reduceLT,Nat.reduceDiv,Nat.reduceMod,Nat.reduceLeDiff,↓reduceIte,h0,h3,h4,h5,h6,vStr_tv,e1,e2,e3,e4,e5,e6,e7,e8,e9,hle,eT,eD,↓z1',w3,gt_nn]
   refine hx _ ⟨?_, ?_, ?_, ?_⟩ <;> simp only [go_sem,reduceCtorEq,↓reduceIte,h0,h3,h4,h5]
 | cons w0 l=>
  rw [hF] at hws hflen
  have hx:∀ w ∈ w0 :: l,w≠[]∧w.length≤16777216:=fun w hw=>by
   have h2:=fx w (by rw [show fieldsGo (s.take (endP s)) []=w0 :: l from hF];exact hw)
   refine ⟨h2.1, ?_⟩
   have h3:=h2.2
   rw [List.length_take] at h3
   simp at h3
   omega
  obtain ⟨b0,w',rfl⟩:∃ b0 w',w0=b0 :: w':=by
   cases w0 with
   | nil=>exact absurd rfl (hx _ (List.mem_cons_self ..)).1
   | cons b0 w'=>exact ⟨b0,w',rfl⟩
  have hws':=hws
  rcases hws with ⟨_,hv⟩ | ⟨_,b,o,c,z,row,rfl,g2,g3,g4,g5⟩
  ·cases hv
  have u1:∀ {id:Nat} {f:V→R},nth id row o f=f (tv (b0 :: w')):=fun {id f}=>nth_get (by simpa using g5 0 _ rfl)
  have u2:l.length+1<9223372036854775808:=by simp only [List.length_cons] at hflen;omega
  have u3:nn (l.length+1):=u2
  have u4:0<l.length+1:=by omega
  have u5:0<w'.length+1:=by omega
  have u6:enc (b0 :: w') >>> 0 &&& 255=b0.toNat:=by
   have:=enc_at (b0 :: w') 0 (by simp)
   simpa using this
  rw [List.length_cons] at w3
  simp only [List.length_cons] at z1'
  by_cases hb:b0.toNat=35
  ·have hb':b0=35:=UInt8.toNat_inj.1 hb
   have hlp:lineP (s.take (endP s))=none:=by unfold lineP;rw [hF,if_pos (Or.inr (show (((b0 :: w') :: l).headD []).headD 0=35 from hb'))]
   rw [hlp]
   have u7:(b0.toNat=35)=True:=eq_true hb
   refine Or.inl ⟨G1,vo,acc,h1,hacc,rfl,fun d kx r e x E hx => ?_⟩
   have q0:=E.a0
   have q3:=E.a3
   have q4:=E.a4
   have q5:=E.a5
   rw [evL_succ]
   simp only [go_sem,reduceCtorEq,Nat.reduceAdd,Nat.reduceSub,Nat.reduceMul,Nat.reduceEqDiff,Nat.reduceLT,Nat.reduceDiv,Nat.reduceMod,Nat.reduceLeDiff,↓reduceIte,c12l1,q0,vStr_tv,e0,e1,e2]
   refine rscan_loop (G:=G) (s:=s) (v3 := .ptr Fb 0) (v4:=vo) (v5 := .int 3 a) e2 s.length 0 (by omega) (by rw [List.drop_zero];simp) _ _ fuel _ (by omega) (by simp only [go_sem,reduceCtorEq,↓reduceIte,q0]) (by simp only [go_sem,reduceCtorEq,↓reduceIte,q3]) (by simp only [go_sem,reduceCtorEq,↓reduceIte,q4]) (by simp only [go_sem,reduceCtorEq,↓reduceIte,q5]) (by simp only [go_sem,reduceCtorEq,↓reduceIte]) x fun e' h0 h3 h4 h5 h6 => ?_
   simp only [go_sem,reduceCtorEq,Nat.reduceAdd,Nat.reduceSub,Nat.reduceMul,Nat.reduceEqDiff,Nat.reduceLT,Nat.reduceDiv,Nat.reduceMod,Nat.reduceLeDiff,↓reduceIte,h0,h3,h4,h5,h6,vStr_tv,e1,e2,e3,e4,e5,e6,e7,e8,e9,hle,eT,eD,↓z1',w3,gt_nn,u1,u2,u3,u4,u5,u6,u7,g3,isOne_tv]
   refine hx _ ⟨?_, ?_, ?_, ?_⟩ <;> simp only [go_sem,reduceCtorEq,↓reduceIte,h0,h3,h4,h5]
  ·have hlp:lineP (s.take (endP s))=some ((b0 :: w') :: l):=by
    unfold lineP
    rw [hF,if_neg]
    intro h
    rcases h with h | h
    ·cases h
    ·have h':b0=35:=h
     exact hb (by rw [h'];rfl)
   rw [hlp]
   have u7:(b0.toNat=35)=False:=eq_false hb
   obtain ⟨G2,f2,z2⟩:=rstep_call (cp:=cp) (fuel:=fuel) T N hw1 (by omega) hws' (by simp only [List.length_cons] at hflen ⊢;omega) (fun w hw=>(hx w hw).2)
   simp only [List.length_cons] at z2
   have z2':=fun {d:Nat} {k:K}=>z2 d k
   have h2:=h1.fresh f2
   have hw2:=f2.wf
   generalize hse:(stepP num ((b0 :: w') :: l)).1=st at z2'
   generalize hce:(stepP num ((b0 :: w') :: l)).2=cc at z2'
   generalize hG3:(G2.new (.cells [.int 3 0, .int 3 0, .int 3 0, .str 0 0])).put G2.n (.cells st.cells)=G3
   have f23:Fresh G2 (G2.new (.cells [.int 3 0, .int 3 0, .int 3 0, .str 0 0])):=Fresh.new hw2
   have f3:Fresh G2 G3:=by rw [← hG3];exact f23.put (Nat.le_refl _) (by rw [Heap.n_new];omega)
   have g3n:G3.n=G2.n+1:=by rw [← hG3,Heap.n_put,Heap.n_new]
   have g3x:G3.get G2.n = .cells st.cells:=by rw [← hG3,Heap.get_put f23.wf (by rw [Heap.n_new];omega),if_pos rfl]
   have h3':=h2.fresh f3
   have hw3:=f3.wf
   have l2:G2.n<G2.n+1:=by omega
   have t2:List.take 4 st.cells=st.cells:=rfl
   have t3:st.cells.length=4:=rfl
   have t5:∀ {id:Nat} {x:R},allOne id st.cells x=x:=fun {id x}=>rfl
   have t6:∀ {id:Nat} {f:List V→R},setAt id st.cells [.int 3 0, .int 3 0, .int 3 0, .str 0 0] 0 f=f st.cells:=fun {id f}=>rfl
   have t8:∀ {id:Nat} {f:List V→R},dropN id st.cells 0 f=f st.cells:=fun {id f}=>rfl
   have t9:∀ {id:Nat} {f:List V→R},takeN id st.cells 4 f=f st.cells:=fun {id f}=>rfl
   have hsn:=fun {id:Nat} {f:Nat→R}=>h.gv.sn (id:=id) (f:=f)
   have hs1:∀ {id:Nat} {k:R},isOne id vo k=k:=fun {id k}=>h.gv.is1
   have al:acc.length<9223372036854775808:=by omega
   have an:nn acc.length:=al
   have lF:=h3'.lF
   have gF:=h3'.gF
   have tF:∀ {x y:Nat} {id:Nat} {f:List V→R},setAt id [.int 3 x, .int 3 y] [.int 3 0, .int 3 0] 0 f=f [.int 3 x, .int 3 y]:=fun {x y id f}=>rfl
   by_cases hc:cc=0
   ·subst hc
    by_cases hfull:acc.length=4096
    ·have u8:4096≤acc.length:=by omega
     refine Or.inr ⟨G3.put Fb (.cells [.int 3 3, .int 3 a]),3, ?_,h3'.f.put h3'.hF h3'.lF,by rw [Heap.n_put];exact h3'.lF,by rw [Heap.get_put hw3 h3'.lF,if_pos rfl],fun d kx r e x E hx => ?_⟩
     ·simp only [hce,hfull,ne_eq,not_true_eq_false,if_false,if_true]
     ·rcases h.gv.2.2 with ⟨_,hz⟩ | ⟨bo,co,so,rfl,_⟩
      ·omega
      have q0:=E.a0
      have q3:=E.a3
      have q4:=E.a4
      have q5:=E.a5
      rw [evL_succ]
      simp only [go_sem,reduceCtorEq,Nat.reduceAdd,Nat.reduceSub,Nat.reduceMul,Nat.reduceEqDiff,Nat.reduceLT,Nat.reduceDiv,Nat.reduceMod,Nat.reduceLeDiff,↓reduceIte,c12l1,q0,vStr_tv,e0,e1,e2]
      refine rscan_loop (G:=G) (s:=s) (v3 := .ptr Fb 0) (v4 := .slice bo 0 acc.length co so) (v5 := .int 3 a) e2 s.length 0 (by omega) (by rw [List.drop_zero];simp) _ _ fuel _ (by omega) (by simp only [go_sem,reduceCtorEq,↓reduceIte,q0]) (by simp only [go_sem,reduceCtorEq,↓reduceIte,q3]) (by simp only [go_sem,reduceCtorEq,↓reduceIte,q4]) (by simp only [go_sem,reduceCtorEq,↓reduceIte,q5]) (by simp only [go_sem,reduceCtorEq,↓reduceIte]) x fun e' h0 h3 h4 h5 h6 => ?_
      simp only [go_sem,reduceCtorEq,Nat.reduceAdd,Nat.reduceSub,Nat.reduceMul,Nat.reduceEqDiff,Nat.reduceLT,Nat.reduceDiv,Nat.reduceMod,Nat.reduceLeDiff,↓reduceIte,h0,h3,h4,h5,h6,vStr_tv,e1,e2,e3,e4,e5,e6,e7,e8,e9,hle,eT,eD,↓z1',w3,gt_nn,u1,u2,u3,u4,u5,u6,u7,g3,isOne_tv,↓z2',hw2,l2,t2,t3,t5,↓t6,hG3,hs1,al,an,u8,lF,gF,↓tF,hw3]
      refine hx _ ?_ ?_ <;> simp only [go_sem,reduceCtorEq,↓reduceIte,h3]
    ·have u8:¬ 4096≤acc.length:=by omega
     generalize hG4:G3.new (.cells st.cells)=G4
     have f4:Fresh G3 G4:=by rw [← hG4];exact Fresh.new hw3
     have g4x:G4.get G3.n = .cells st.cells:=by rw [← hG4,Heap.get_new hw3,if_pos rfl]
     have h4':=h3'.fresh f4
     obtain ⟨vo1,G5,zz,hv5,f5,o5,n5,off5⟩:=h4'.gv.app (cx:=2) (sx:=0) h4'.f g4x rfl (fun v hv=>by
      rw [← hse] at hv
      simp only [Stp.cells,List.mem_cons,List.not_mem_nil,or_false] at hv
      rcases hv with rfl | rfl | rfl | rfl <;> rfl) (by omega)
     have hSt:Stps (acc ++ [st])=Stps acc ++ st.cells:=by simp only [Stps,List.flatMap_append,List.flatMap_cons,List.flatMap_nil,List.append_nil]
     have hl5:(acc ++ [st]).length=acc.length+1:=by simp
     rw [← hSt,← hl5] at hv5
     have h5':RP H G5 Fb vo1 (acc ++ [st]):=⟨f5,h4'.hF,by have:=h4'.lF;omega,by rw [o5 _ h4'.lF (h4'.off _ (by omega))];exact h4'.gF,hv5,fun i hi=>off5 i (by have:=h4'.lF;omega)⟩
     refine Or.inl ⟨G5,vo1,acc ++ [st],h5',by rw [hl5];omega, ?_, ?_⟩
     ·simp only [hce,hse,hfull,ne_eq,not_true_eq_false,if_false]
     have zz':∀ {id:Nat} {ph:Phi} {e':Env} {k:K},pgetA (.s ⟨.i0, .i7, .i7⟩) e'=vo→pgetA (.s ⟨.i1, .i0, .i1⟩) e' = .slice G3.n 0 1 2 0→evOp (.app false 4 (.s ⟨.i0, .i7, .i7⟩) (.s ⟨.i1, .i0, .i1⟩)) id ph e' G4 k=k vo1 G5:=fun {id ph e' k} p q=>zz p q
     rcases h.gv.2.2 with ⟨rfl,hz⟩ | ⟨bo,co,so,rfl,_⟩
     ·intro d kx r e x E hx
      have q0:=E.a0
      have q3:=E.a3
      have q4:=E.a4
      have q5:=E.a5
      rw [evL_succ]
      simp only [go_sem,reduceCtorEq,Nat.reduceAdd,Nat.reduceSub,Nat.reduceMul,Nat.reduceEqDiff,Nat.reduceLT,Nat.reduceDiv,Nat.reduceMod,Nat.reduceLeDiff,↓reduceIte,c12l1,q0,vStr_tv,e0,e1,e2]
      refine rscan_loop (G:=G) (s:=s) (v3 := .ptr Fb 0) (v4 := .nils) (v5 := .int 3 a) e2 s.length 0 (by omega) (by rw [List.drop_zero];simp) _ _ fuel _ (by omega) (by simp only [go_sem,reduceCtorEq,↓reduceIte,q0]) (by simp only [go_sem,reduceCtorEq,↓reduceIte,q3]) (by simp only [go_sem,reduceCtorEq,↓reduceIte,q4]) (by simp only [go_sem,reduceCtorEq,↓reduceIte,q5]) (by simp only [go_sem,reduceCtorEq,↓reduceIte]) x fun e' h0 h3 h4 h5 h6 => ?_
      simp only [go_sem,reduceCtorEq,Nat.reduceAdd,Nat.reduceSub,Nat.reduceMul,Nat.reduceEqDiff,Nat.reduceLT,Nat.reduceDiv,Nat.reduceMod,Nat.reduceLeDiff,↓reduceIte,h0,h3,h4,h5,h6,vStr_tv,e1,e2,e3,e4,e5,e6,e7,e8,e9,hle,eT,eD,↓z1',w3,gt_nn,u1,u2,u3,u4,u5,u6,u7,g3,isOne_tv,↓z2',hw2,l2,t2,t3,t5,↓t6,t8,t9,hG3,g3x,hs1,al,an,hw3,hG4,↓zz']
      refine hx _ ⟨?_, ?_, ?_, ?_⟩ <;> simp only [go_sem,reduceCtorEq,↓reduceIte,h0,h3,h4,h5]
     ·intro d kx r e x E hx
      have q0:=E.a0
      have q3:=E.a3
      have q4:=E.a4
      have q5:=E.a5
      rw [evL_succ]
      simp only [go_sem,reduceCtorEq,Nat.reduceAdd,Nat.reduceSub,Nat.reduceMul,Nat.reduceEqDiff,Nat.reduceLT,Nat.reduceDiv,Nat.reduceMod,Nat.reduceLeDiff,↓reduceIte,c12l1,q0,vStr_tv,e0,e1,e2]
      refine rscan_loop (G:=G) (s:=s) (v3 := .ptr Fb 0) (v4 := .slice bo 0 acc.length co so) (v5 := .int 3 a) e2 s.length 0 (by omega) (by rw [List.drop_zero];simp) _ _ fuel _ (by omega) (by simp only [go_sem,reduceCtorEq,↓reduceIte,q0]) (by simp only [go_sem,reduceCtorEq,↓reduceIte,q3]) (by simp only [go_sem,reduceCtorEq,↓reduceIte,q4]) (by simp only [go_sem,reduceCtorEq,↓reduceIte,q5]) (by simp only [go_sem,reduceCtorEq,↓reduceIte]) x fun e' h0 h3 h4 h5 h6 => ?_
      simp only [go_sem,reduceCtorEq,Nat.reduceAdd,Nat.reduceSub,Nat.reduceMul,Nat.reduceEqDiff,Nat.reduceLT,Nat.reduceDiv,Nat.reduceMod,Nat.reduceLeDiff,↓reduceIte,h0,h3,h4,h5,h6,vStr_tv,e1,e2,e3,e4,e5,e6,e7,e8,e9,hle,eT,eD,↓z1',w3,gt_nn,u1,u2,u3,u4,u5,u6,u7,g3,isOne_tv,↓z2',hw2,l2,t2,t3,t5,↓t6,t8,t9,hG3,g3x,hs1,al,an,u8,hw3,hG4,↓zz']
      refine hx _ ⟨?_, ?_, ?_, ?_⟩ <;> simp only [go_sem,reduceCtorEq,↓reduceIte,h0,h3,h4,h5]
   ·refine Or.inr ⟨G3.put Fb (.cells [.int 3 cc, .int 3 a]),cc, ?_,h3'.f.put h3'.hF h3'.lF,by rw [Heap.n_put];exact h3'.lF,by rw [Heap.get_put hw3 h3'.lF,if_pos rfl],fun d kx r e x E hx => ?_⟩
    ·simp only [hce,ne_eq,hc,not_false_eq_true,if_true]
    ·have q0:=E.a0
     have q3:=E.a3
     have q4:=E.a4
     have q5:=E.a5
     rw [evL_succ]
     simp only [go_sem,reduceCtorEq,Nat.reduceAdd,Nat.reduceSub,Nat.reduceMul,Nat.reduceEqDiff,Nat.reduceLT,Nat.reduceDiv,Nat.reduceMod,Nat.reduceLeDiff,↓reduceIte,c12l1,q0,vStr_tv,e0,e1,e2]
     refine rscan_loop (G:=G) (s:=s) (v3 := .ptr Fb 0) (v4:=vo) (v5 := .int 3 a) e2 s.length 0 (by omega) (by rw [List.drop_zero];simp) _ _ fuel _ (by omega) (by simp only [go_sem,reduceCtorEq,↓reduceIte,q0]) (by simp only [go_sem,reduceCtorEq,↓reduceIte,q3]) (by simp only [go_sem,reduceCtorEq,↓reduceIte,q4]) (by simp only [go_sem,reduceCtorEq,↓reduceIte,q5]) (by simp only [go_sem,reduceCtorEq,↓reduceIte]) x fun e' h0 h3 h4 h5 h6 => ?_
     simp only [go_sem,reduceCtorEq,Nat.reduceAdd,Nat.reduceSub,Nat.reduceMul,Nat.reduceEqDiff,Nat.reduceLT,Nat.reduceDiv,Nat.reduceMod,Nat.reduceLeDiff,↓reduceIte,h0,h3,h4,h5,h6,vStr_tv,e1,e2,e3,e4,e5,e6,e7,e8,e9,hle,eT,eD,z1',w3,gt_nn,u1,u2,u3,u4,u5,u6,u7,g3,isOne_tv,z2',hw2,l2,t2,t3,t5,↓t6,hG3,hc,lF,gF,↓tF,hw3]
     refine hx _ ?_ ?_ <;> simp only [go_sem,reduceCtorEq,↓reduceIte,h3]
end
end Go.Ev
end
section
namespace Go.Ev
section
variable {t:Nat→Option FnE} {cp:RC→CodeE} {fuel:Nat} {H:Heap} {dec:List UInt8→Nat × Nat} {num:List UInt8→Nat}
theorem rparse_loop (T:TCode t) (N:NumOK num) (hfu:1000001<fuel) {Fb:Nat}:∀ (m:Nat) (s:List UInt8) (a:Nat) (acc:List Stp) (G:Heap) (vo:V),s.length=m→s.length≤900000→a+s.length<1000000000→acc.length≤4096→RP H G Fb vo acc →
  (∃ out G' vo',parseGo num (linesP s) a acc = .ok out∧RP H G' Fb vo' out ∧ ∀ (d:Nat) (kx:Nat→KE) (r:Nat) (e:Env) (x:R),s.length<r→EP s a Fb vo e→(∀ e',pget ⟨.i0, .i0, .i3⟩ e' = .ptr Fb 0→pget ⟨.i0, .i0, .i4⟩ e'=vo'→kx 1 e' G'=x)→evL c12l1 fuel (evP cp t fuel (d+6)) kx r e G=x) ∨
  ∃ c y G',parseGo num (linesP s) a acc = .error (c,y)∧Fresh H G'∧Fb<G'.n∧G'.get Fb = .cells [.int 3 c, .int 3 y] ∧ ∀ (d:Nat) (kx:Nat→KE) (r:Nat) (e:Env) (x:R),s.length<r→EP s a Fb vo e→(∀ e',pget ⟨.i0, .i0, .i2⟩ e' = .nils→pget ⟨.i0, .i0, .i3⟩ e' = .ptr Fb 0→kx 0 e' G'=x)→evL c12l1 fuel (evP cp t fuel (d+6)) kx r e G=x:=by
 intro m
 induction m using Nat.strongRecOn with
 | ind m ih=>
  intro s a acc G vo hm hs ha hacc h
  by_cases hs0:s=[]
  ·subst hs0
   refine Or.inl ⟨acc,G,vo,parseGo_nil num a acc,h,fun d kx r e x hr E hx => ?_⟩
   obtain ⟨r,rfl⟩:∃ q,r=q+1:=⟨r-1,by omega⟩
   have q0:=E.a0
   have q3:=E.a3
   have q4:=E.a4
   rw [tv_nil] at q0
   rw [evL_succ]
   simp only [go_sem,reduceCtorEq,Nat.reduceAdd,Nat.reduceSub,Nat.reduceMul,Nat.reduceEqDiff,Nat.reduceLT,Nat.reduceDiv,Nat.reduceMod,Nat.reduceLeDiff,↓reduceIte,c12l1,q0]
   refine hx _ ?_ ?_ <;> simp only [go_sem,reduceCtorEq,↓reduceIte,q3,q4]
  ·have h0:0<s.length:=List.length_pos_iff.2 hs0
   have hle:=endP_le s
   have hlen:(s.drop (min (endP s+1) s.length)).length<s.length:=by rw [List.length_drop];omega
   rcases rparse_round (cp:=cp) (fuel:=fuel) (a:=a) T N hfu hs0 hs (by omega) hacc h with ⟨G1,vo1,acc1,h1,l1,p1,z1⟩ | ⟨G1,c,p1,f1,n1,g1,z1⟩
   ·rw [p1]
    rcases ih (s.drop (min (endP s+1) s.length)).length (by omega) (s.drop (min (endP s+1) s.length)) (a+1) acc1 G1 vo1 rfl (by omega) (by omega) l1 h1 with ⟨out,G',vo',p2,h2,z2⟩ | ⟨c,y,G',p2,f2,n2,g2,z2⟩
    ·refine Or.inl ⟨out,G',vo',p2,h2,fun d kx r e x hr E hx => ?_⟩
     obtain ⟨r,rfl⟩:∃ q,r=q+1:=⟨r-1,by omega⟩
     exact z1 d kx r e x E fun e' E'=>z2 d kx r e' x (by omega) E' hx
    ·refine Or.inr ⟨c,y,G',p2,f2,n2,g2,fun d kx r e x hr E hx => ?_⟩
     obtain ⟨r,rfl⟩:∃ q,r=q+1:=⟨r-1,by omega⟩
     exact z1 d kx r e x E fun e' E'=>z2 d kx r e' x (by omega) E' hx
   ·refine Or.inr ⟨c,a,G1,p1,f1,n1,g1,fun d kx r e x hr E hx => ?_⟩
    obtain ⟨r,rfl⟩:∃ q,r=q+1:=⟨r-1,by omega⟩
    exact z1 d kx r e x E hx
theorem rparse_call (T:TCode t) (N:NumOK num) (hw:H.wf) (hfu:1000001<fuel) {s:List UInt8} (hs:s.length≤900000) :
  (∃ out G v,parseGo num (linesP s) 0 [] = .ok out∧Fresh H G∧Gr H G v 4 out.length (Stps out) ∧ ∀ (d:Nat) (k:K),callP (evP cp t fuel (d+7)) (.func 24 []) [tv s] H k=k (.tup [v, .agg [.int 3 0, .int 3 0]]) G) ∨
  ∃ c y G,parseGo num (linesP s) 0 [] = .error (c,y)∧Fresh H G ∧ ∀ (d:Nat) (k:K),callP (evP cp t fuel (d+7)) (.func 24 []) [tv s] H k=k (.tup [.nils, .agg [.int 3 c, .int 3 y]]) G:=by
 generalize hG1:H.new (.cells [.int 3 0, .int 3 0])=G1
 have f1:Fresh H G1:=by rw [← hG1];exact Fresh.new hw
 have g1n:G1.n=H.n+1:=by rw [← hG1,Heap.n_new]
 have g1F:G1.get H.n = .cells [.int 3 0, .int 3 0]:=by rw [← hG1,Heap.get_new hw,if_pos rfl]
 have h0:RP H G1 H.n .nils []:=⟨f1,Nat.le_refl _,by omega,g1F,Gr.nils,fun i _ b o n c s h=>by cases h⟩
 rcases rparse_loop (cp:=cp) (fuel:=fuel) T N hfu s.length s 0 [] G1 .nils rfl hs (by omega) (by simp) h0 with ⟨out,G',vo',p,h,z⟩ | ⟨c,y,G',p,f,n,g,z⟩
 ·have hw':=h.f.wf
  have lF:=h.lF
  have gF:=h.gF
  refine Or.inl ⟨out,G'.put H.n (.cells [.int 3 0, .int 3 0]),vo',p,h.f.put (Nat.le_refl _) lF,h.gv.put hw' lF (h.off _ (by omega)),fun d k => ?_⟩
  have hs1:∀ {id:Nat} {k:R},isOne id vo' k=k:=fun {id k}=>h.gv.is1
  have tF:∀ {id:Nat} {f:List V→R},setAt id [.int 3 0, .int 3 0] [.int 3 0, .int 3 0] 0 f=f [.int 3 0, .int 3 0]:=fun {id f}=>rfl
  rw [call_entry T.k12 rfl rfl]
  simp only [go_sem,reduceCtorEq,Nat.reduceAdd,Nat.reduceSub,Nat.reduceMul,Nat.reduceEqDiff,Nat.reduceLT,Nat.reduceDiv,Nat.reduceMod,Nat.reduceLeDiff,↓reduceIte,c12,hw,hG1]
  refine z d _ fuel _ _ (by omega) ⟨?_, ?_, ?_, ?_⟩ fun e' q3 q4 => ?_
  ·simp only [go_sem,reduceCtorEq,↓reduceIte]
  ·simp only [go_sem,reduceCtorEq,↓reduceIte]
  ·simp only [go_sem,reduceCtorEq,↓reduceIte]
  ·simp only [go_sem,reduceCtorEq,↓reduceIte]
  ·simp only [go_sem,reduceCtorEq,Nat.reduceAdd,Nat.reduceSub,Nat.reduceMul,Nat.reduceEqDiff,Nat.reduceLT,Nat.reduceDiv,Nat.reduceMod,Nat.reduceLeDiff,↓reduceIte,q3,q4,gF,↓tF,hw',lF,hs1,retF_tA]
 ·have hw':=f.wf
  refine Or.inr ⟨c,y,G',p,f,fun d k => ?_⟩
  rw [call_entry T.k12 rfl rfl]
  simp only [go_sem,reduceCtorEq,Nat.reduceAdd,Nat.reduceSub,Nat.reduceMul,Nat.reduceEqDiff,Nat.reduceLT,Nat.reduceDiv,Nat.reduceMod,Nat.reduceLeDiff,↓reduceIte,c12,hw,hG1]
  refine z d _ fuel _ _ (by omega) ⟨?_, ?_, ?_, ?_⟩ fun e' q2 q3 => ?_
  ·simp only [go_sem,reduceCtorEq,↓reduceIte]
  ·simp only [go_sem,reduceCtorEq,↓reduceIte]
  ·simp only [go_sem,reduceCtorEq,↓reduceIte]
  ·simp only [go_sem,reduceCtorEq,↓reduceIte]
  ·simp only [go_sem,reduceCtorEq,Nat.reduceAdd,Nat.reduceSub,Nat.reduceMul,Nat.reduceEqDiff,Nat.reduceLT,Nat.reduceDiv,Nat.reduceMod,Nat.reduceLeDiff,↓reduceIte,q2,q3,g,retF_tA]
end
end Go.Ev
end
section
namespace Go.Ev
section
variable {t:Nat→Option FnE} {cp:RC→CodeE} {fuel:Nat} {H:Heap}
theorem same_loop (T:TCode t) {v w:V} {es fs:List Stp} (hl:StAt H v es) (hq:StAt H w fs) (hw:H.wf) (hlen:fs.length=es.length) (hn:es.length<1000000) :
  ∀ (m i:Nat),i+m=es.length→es.take i=fs.take i → ∀ (ph:Phi) (kx:Nat→KE) (r:Nat) (e:Env),m<r→pget ⟨.i0, .i0, .i0⟩ e=v→pget ⟨.i0, .i0, .i1⟩ e=w→pget ⟨.i0, .i0, .i5⟩ e = .int 3 i →
   ∀ x:R,(es=fs → ∀ e',kx 1 e' H=x)→(es≠fs → ∀ e',pget ⟨.i0, .i0, .i4⟩ e' = .bool false→kx 0 e' H=x) →
   evL c13l0 fuel ph kx r e H=x:=by
 have hs:=fun {id:Nat} {f:Nat→R}=>hl.sn (id:=id) (f:=f)
 intro m
 induction m with
 | zero=>
  intro i hi ht ph kx r e hr h0 h1 h5 x hY hN
  obtain ⟨r,rfl⟩:∃ q,r=q+1:=⟨r-1,by omega⟩
  obtain rfl:i=es.length:=by omega
  have e1:¬ es.length<es.length:=by omega
  have e2:nn es.length:=by unfold nn;omega
  have e8:es.length<9223372036854775808:=by omega
  rw [evL_succ]
  simp only [go_sem,↓op_app,reduceCtorEq,Nat.reduceAdd,Nat.reduceSub,Nat.reduceMul,Nat.reduceEqDiff,Nat.reduceLT,Nat.reduceDiv,Nat.reduceMod,Nat.reduceLeDiff,↓reduceIte,c13l0,h0,h1,h5,↓hs,e1,e2,e8]
  refine hY ?_ _
  rwa [List.take_of_length_le (by omega),List.take_of_length_le (by omega)] at ht
 | succ m ih=>
  intro i hi ht ph kx r e hr h0 h1 h5 x hY hN
  obtain ⟨r,rfl⟩:∃ q,r=q+1:=⟨r-1,by omega⟩
  have hlt:i<es.length:=by omega
  have g1:es[i]? = some es[i]:=List.getElem?_eq_getElem hlt
  have g2:fs[i]? = some fs[i]:=List.getElem?_eq_getElem (by omega)
  obtain ⟨b,o,c,s,hv,zr1⟩:=hl.four g1
  obtain ⟨b',o',c',s',hv',zr2⟩:=hq.four g2
  rw [hlen] at hv'
  have e1:nn i:=by unfold nn;omega
  have e2:nn es.length:=by unfold nn;omega
  have e3:i<9223372036854775808:=by omega
  have e8:es.length<9223372036854775808:=by omega
  have e9:(i+1) % 18446744073709551616=i+1:=by omega
  have hst:es[i]=fs[i]→es.take (i+1)=fs.take (i+1):=fun he=>by
   rw [List.take_succ_eq_append_getElem hlt,List.take_succ_eq_append_getElem (by omega),ht,he]
  have hne:es[i]≠fs[i]→es≠fs:=fun he h=>he (by subst h;rfl)
  generalize es[i]=ea at zr1 hst hne
  generalize fs[i]=eb at zr2 hst hne
  subst hv
  rw [hv'] at h1
  have z:∀ {id:Nat} {ph:Phi} {e':Env} {H:Heap} {k:K},pgetA (.s ⟨.i0, .i2, .i4⟩) e' = .agg ea.cells→pgetA (.s ⟨.i0, .i3, .i0⟩) e' = .agg eb.cells→evOp (.aggEq [1,1,1,2] true (.s ⟨.i0, .i2, .i4⟩) (.s ⟨.i0, .i3, .i0⟩)) id ph e' H k=k (.bool (if ea=eb then !true else true)) H:=fun {id ph e' H k} p q=>op_aggEqS p q
  rw [evL_succ]
  by_cases q1:ea=eb
  ·rw [if_pos q1] at z
   simp only [go_sem,↓op_app,reduceCtorEq,Nat.reduceAdd,Nat.reduceSub,Nat.reduceMul,Nat.reduceEqDiff,Nat.reduceLT,Nat.reduceDiv,Nat.reduceMod,Nat.reduceLeDiff,↓reduceIte,c13l0,h0,h1,h5,hlt,e1,e2,e3,e8,e9,zr1,zr2,hw,↓z]
   refine ih (i+1) (by omega) (hst q1) ph kx r _ (by omega) ?_ ?_ ?_ x hY hN
   ·simp only [go_sem,reduceCtorEq,↓reduceIte,h0]
   ·simp only [go_sem,↓op_app,reduceCtorEq,Nat.reduceAdd,Nat.reduceSub,Nat.reduceMul,Nat.reduceEqDiff,Nat.reduceLT,Nat.reduceDiv,Nat.reduceMod,Nat.reduceLeDiff,↓reduceIte,h1,hv']
   ·simp only [go_sem,reduceCtorEq,↓reduceIte]
  ·rw [if_neg q1] at z
   simp only [go_sem,↓op_app,reduceCtorEq,Nat.reduceAdd,Nat.reduceSub,Nat.reduceMul,Nat.reduceEqDiff,Nat.reduceLT,Nat.reduceDiv,Nat.reduceMod,Nat.reduceLeDiff,↓reduceIte,c13l0,h0,h1,h5,hlt,e1,e2,e3,e8,e9,zr1,zr2,hw,↓z]
   exact hN (hne q1) _ (by simp only [go_sem,reduceCtorEq,↓reduceIte])
theorem same_call (T:TCode t) {v w:V} {es fs:List Stp} (hw:H.wf) (hl:StAt H v es) (hq:StAt H w fs) (hn:es.length<1000000) (hm:fs.length<1000000) (hfu:1000001<fuel) (d:Nat) (k:K) :
  callP (evP cp t fuel (d+1)) (.func 26 []) [v,w] H k=k (.bool (decide (es=fs))) H:=by
 have hs:=fun {id:Nat} {f:Nat→R}=>hl.sn (id:=id) (f:=f)
 have hs2:=fun {id:Nat} {f:Nat→R}=>hq.sn (id:=id) (f:=f)
 have e8:es.length<9223372036854775808:=by omega
 have e9:fs.length<9223372036854775808:=by omega
 rw [call_entry T.k13 rfl rfl]
 by_cases hlen:es.length=fs.length
 ·rw [← hlen] at hs2 e9
  simp only [go_sem,↓op_app,reduceCtorEq,Nat.reduceAdd,Nat.reduceSub,Nat.reduceMul,Nat.reduceEqDiff,Nat.reduceLT,Nat.reduceDiv,Nat.reduceMod,Nat.reduceLeDiff,↓reduceIte,c13,↓hs,↓hs2,e8,e9]
  refine same_loop (H:=H) T hl hq hw hlen.symm hn es.length 0 (by omega) rfl _ _ fuel _ (by omega) ?_ ?_ ?_ _ (fun he e' => ?_) (fun he e' h4 => ?_)
  ·simp only [go_sem,reduceCtorEq,↓reduceIte]
  ·simp only [go_sem,reduceCtorEq,↓reduceIte]
  ·simp only [go_sem,reduceCtorEq,↓reduceIte]
  ·simp only [go_sem,↓op_app,reduceCtorEq,Nat.reduceAdd,Nat.reduceSub,Nat.reduceMul,Nat.reduceEqDiff,Nat.reduceLT,Nat.reduceDiv,Nat.reduceMod,Nat.reduceLeDiff,↓reduceIte,decide_eq_true he]
  ·simp only [go_sem,↓op_app,reduceCtorEq,Nat.reduceAdd,Nat.reduceSub,Nat.reduceMul,Nat.reduceEqDiff,Nat.reduceLT,Nat.reduceDiv,Nat.reduceMod,Nat.reduceLeDiff,↓reduceIte,h4,decide_eq_false he]
 ·have hne:es≠fs:=fun h=>hlen (by rw [h])
  simp only [go_sem,↓op_app,reduceCtorEq,Nat.reduceAdd,Nat.reduceSub,Nat.reduceMul,Nat.reduceEqDiff,Nat.reduceLT,Nat.reduceDiv,Nat.reduceMod,Nat.reduceLeDiff,↓reduceIte,c13,↓hs,↓hs2,e8,e9,hlen,decide_eq_false hne]
theorem as_fault (hA:t 27=some (.nat nAs)) {H:Heap} {k:K} {d b q:Nat} (hb:H.get b = .cells [.nilp]) (hw:H.wf) (hn:b<H.n):callP (evP cp t fuel (d+1)) (.func 54 []) [.iface 43 (.ptr q 0), .iface 74 (.ptr b 0)] H k=k (.bool true) (H.put b (.cells [.ptr q 0])):=by
 rw [call_nat hA rfl rfl]
 show nAs [.iface 43 (.ptr q 0), .iface 74 (.ptr b 0)] H k=_
 simp only [nAs,hb,and_self,if_true]
 exact hSet_put hw hn
theorem is_code (hI:t 30=some (.nat nIs)) {H:Heap} {k:K} {d q c y:Nat} (hq:H.get q = .cells [.int 3 c, .int 3 y]):callP (evP cp t fuel (d+1)) (.func 60 []) [.iface 43 (.ptr q 0), .iface 25 (.int 3 c)] H k=k (.bool true) H:=by
 rw [call_nat hI rfl rfl]
 show nIs [.iface 43 (.ptr q 0), .iface 25 (.int 3 c)] H k=_
 simp only [nIs,hq,and_self,if_true,Nat.beq_refl]
theorem op_aggEqF {id:Nat} {ph:Phi} {e:Env} {H:Heap} {k:K} {x y:Arg} {a b:Nat} (h1:pgetA x e = .agg [.int 3 a, .int 3 b]) (h2:pgetA y e = .agg [.int 3 a, .int 3 b]):evOp (.aggEq [1,1] false x y) id ph e H k=k (.bool true) H:=by
 show getA x e (fun x=>vAgg id x fun l=>getA y e fun y=>vAgg id y fun m=>ifB (Nat.beq (lenL l) (lenNs [1,1])) (ifB (Nat.beq (lenL m) (lenNs [1,1])) (eqCs id [1,1] l m fun b=>ifB b (ifB false (k (.bool false) H) (k (.bool true) H)) (k (.bool false) H)) (no 0)) (no 0))=_
 rw [getA_eq,h1]
 show getA y e (fun y=>vAgg id y fun m=>ifB (Nat.beq (lenL [V.int 3 a,V.int 3 b]) (lenNs [1,1])) (ifB (Nat.beq (lenL m) (lenNs [1,1])) (eqCs id [1,1] [V.int 3 a,V.int 3 b] m fun b=>ifB b (ifB false (k (.bool false) H) (k (.bool true) H)) (k (.bool false) H)) (no 0)) (no 0))=_
 rw [getA_eq,h2]
 show eqCs id [1,1] [V.int 3 a,V.int 3 b] [V.int 3 a,V.int 3 b] (fun b=>ifB b (ifB false (k (.bool false) H) (k (.bool true) H)) (k (.bool false) H))=_
 rw [eqCs_int,if_pos rfl,eqCs_int,if_pos rfl,eqCs_nil]
 rfl
theorem told_none (T:TCode t) (hw:H.wf) {y:Nat}:∃ G,Fresh H G ∧ ∀ (d:Nat) (k:K),callP (evP cp t fuel (d+2)) (.func 28 []) [.nili, .agg [.int 3 0, .int 3 y]] H k=k (.bool true) G:=by
 refine ⟨H.new (.cells [.int 3 0, .int 3 y]),Fresh.new hw,fun d k => ?_⟩
 rw [call_entry T.k14 rfl rfl]
 simp only [go_sem,↓op_app,reduceCtorEq,Nat.reduceAdd,Nat.reduceSub,Nat.reduceMul,Nat.reduceEqDiff,Nat.reduceLT,Nat.reduceDiv,Nat.reduceMod,Nat.reduceLeDiff,↓reduceIte,c14,c14r1,hw,nilly_nili]
theorem told_fault (hA:t 27=some (.nat nAs)) (hI:t 30=some (.nat nIs)) (T:TCode t) (hw:H.wf) {q c y:Nat} (hq:H.get q = .cells [.int 3 c, .int 3 y]) (hqn:q<H.n) (hc:c≠0):∃ G,Fresh H G ∧ ∀ (d:Nat) (k:K),callP (evP cp t fuel (d+2)) (.func 28 []) [.iface 43 (.ptr q 0), .agg [.int 3 c, .int 3 y]] H k=k (.bool true) G:=by
 generalize hG1:H.new (.cells [.int 3 c, .int 3 y])=G1
 have f1:Fresh H G1:=by rw [← hG1];exact Fresh.new hw
 have g1n:G1.n=H.n+1:=by rw [← hG1,Heap.n_new]
 have g1F:G1.get H.n = .cells [.int 3 c, .int 3 y]:=by rw [← hG1,Heap.get_new hw,if_pos rfl]
 have hw1:=f1.wf
 generalize hG2:G1.new (.cells [.nilp])=G2
 have f12:Fresh G1 G2:=by rw [← hG2];exact Fresh.new hw1
 have f2:=f1.trans f12
 have g2n:G2.n=H.n+1+1:=by rw [← hG2,Heap.n_new,g1n]
 have g2P:G2.get (H.n+1) = .cells [.nilp]:=by rw [← hG2,Heap.get_new hw1,if_pos g1n.symm]
 have hw2:=f2.wf
 have l2:H.n+1<G2.n:=by omega
 generalize hG3:G2.put (H.n+1) (.cells [.ptr q 0])=G3
 have f3:Fresh H G3:=by rw [← hG3];exact f2.put (by omega) l2
 have g3q:G3.get q = .cells [.int 3 c, .int 3 y]:=(f3.same q hqn).trans hq
 have g3P:G3.get (H.n+1) = .cells [.ptr q 0]:=by rw [← hG3,Heap.get_put hw2 l2,if_pos rfl]
 have g3F:G3.get H.n = .cells [.int 3 c, .int 3 y]:=by rw [← hG3,Heap.get_put hw2 l2,if_neg (by omega),f12.same _ (by omega)];exact g1F
 have z1:=fun {d:Nat} {k:K}=>as_fault (cp:=cp) (fuel:=fuel) (d:=d) (k:=k) (q:=q) hA g2P hw2 l2
 rw [hG3] at z1
 have z2:=fun {d:Nat} {k:K}=>is_code (cp:=cp) (fuel:=fuel) (d:=d) (k:=k) hI g3q
 have hc':(c=0)=False:=eq_false hc
 have zq:∀ {id:Nat} {ph:Phi} {e':Env} {H:Heap} {k:K},pgetA (.s ⟨.i0, .i3, .i1⟩) e' = .agg [.int 3 c, .int 3 y]→pgetA (.s ⟨.i0, .i3, .i2⟩) e' = .agg [.int 3 c, .int 3 y]→evOp (.aggEq [1,1] false (.s ⟨.i0, .i3, .i1⟩) (.s ⟨.i0, .i3, .i2⟩)) id ph e' H k=k (.bool true) H:=fun {id ph e' H k} p q=>op_aggEqF p q
 refine ⟨G3,f3,fun d k => ?_⟩
 rw [call_entry T.k14 rfl rfl]
 simp only [go_sem,↓op_app,reduceCtorEq,Nat.reduceAdd,Nat.reduceSub,Nat.reduceMul,Nat.reduceEqDiff,Nat.reduceLT,Nat.reduceDiv,Nat.reduceMod,Nat.reduceLeDiff,↓reduceIte,c14,c14r1,hw,hG1,g1F,hc',nilly_nili,nilly_iface]
 simp only [go_sem,↓op_app,reduceCtorEq,Nat.reduceAdd,Nat.reduceSub,Nat.reduceMul,Nat.reduceEqDiff,Nat.reduceLT,Nat.reduceDiv,Nat.reduceMod,Nat.reduceLeDiff,↓reduceIte,c14r2,hw1,g1n,hG2]
 simp only [go_sem,↓op_app,reduceCtorEq,Nat.reduceAdd,Nat.reduceSub,Nat.reduceMul,Nat.reduceEqDiff,Nat.reduceLT,Nat.reduceDiv,Nat.reduceMod,Nat.reduceLeDiff,↓reduceIte,c14r3,c14r4,g2P,nilly_nili,nilly_iface,z1,g3P,g3q,g3F,↓zq,z2]
end
end Go.Ev
end
section
namespace Go.Ev
theorem parseGo_ne0 {num:List UInt8→Nat}:∀ (ls:List (List UInt8)) (a:Nat) (acc:List Stp) (c y:Nat),parseGo num ls a acc = .error (c,y)→c≠0
 | [],a,acc,c,y,h=>by cases h
 | l :: ls,a,acc,c,y,h=>by
  simp only [parseGo] at h
  cases hl:lineP l with
  | none=>rw [hl] at h;exact parseGo_ne0 ls _ _ c y h
  | some F=>
   rw [hl] at h
   simp only [] at h
   split at h
   ·rename_i h1
    cases h
    exact h1
   ·split at h
    ·cases h;decide
    ·exact parseGo_ne0 ls _ _ c y h
section
variable {t:Nat→Option FnE} {cp:RC→CodeE} {fuel:Nat} {H:Heap} {dec:List UInt8→Nat × Nat} {num:List UInt8→Nat}
theorem StAt.none {H:Heap}:StAt H .nils []:=Or.inl ⟨Or.inl rfl,rfl⟩
theorem reads_law (hA:t 27=some (.nat nAs)) (hI:t 30=some (.nat nIs)) (T:TCode t) (S:SNat t dec num) (C:CPs cp) (hwk:t 10=some (.nat nWorks)) (hw:H.wf) (hfu:1000001<fuel) {s:List UInt8} (hs:s.length<9223372036854775808) :
  ∃ G,Fresh H G ∧ ∀ (d:Nat) (k:K),callP (evP cp t fuel (d+8)) (.func 8 []) [tv s] H k=k (.bool true) G:=by
 have d2:nn s.length:=hs
 have d3:min s.length 5000<9223372036854775808:=by omega
 have d4:min s.length 5000≤s.length:=by omega
 have eS:V.str (min s.length 5000-0) (enc s >>> 0 % 256 ^ (min s.length 5000-0))=tv (s.take (min s.length 5000)):=by
  show V.str (min s.length 5000-0) (enc s >>> (8 * 0) % 256 ^ (min s.length 5000-0))=_
  rw [str_sl (Nat.zero_le _) d4,List.drop_zero,Nat.sub_zero]
 have hs2:(s.take (min s.length 5000)).length≤900000:=by rw [List.length_take];omega
 generalize s.take (min s.length 5000)=s2 at eS hs2
 have tF:∀ {x y:Nat} {id:Nat} {f:List V→R},setAt id [.int 3 x, .int 3 y] [.int 3 0, .int 3 0] 0 f=f [.int 3 x, .int 3 y]:=fun {x y id f}=>rfl
 cases hpg:parseGo num (linesP s2) 0 [] with
 | ok out=>
  obtain ⟨G1,v1,f1,gv1,z1⟩:=parse_ok (cp:=cp) (fuel:=fuel) T S C hw hfu (by omega) hpg
  have hlen:=parseGo_len num _ _ _ _ (by simp) hpg
  rcases rparse_call (cp:=cp) (fuel:=fuel) T S.nok f1.wf hfu hs2 with ⟨out2,G2,v2,p2,f2,gv2,z2⟩ | ⟨c,y,G2,p2,_⟩
  ·obtain rfl:out=out2:=by rw [hpg] at p2;cases p2;rfl
   have hw2:=f2.wf
   have l2:G2.n<G2.n+1:=by omega
   generalize hG3:(G2.new (.cells [.int 3 0, .int 3 0])).put G2.n (.cells [.int 3 0, .int 3 0])=G3
   have f23:Fresh G2 (G2.new (.cells [.int 3 0, .int 3 0])):=Fresh.new hw2
   have f3:Fresh G2 G3:=by rw [← hG3];exact f23.put (Nat.le_refl _) (by rw [Heap.n_new];omega)
   have g3:G3.get G2.n = .cells [.int 3 0, .int 3 0]:=by rw [← hG3,Heap.get_put f23.wf (by rw [Heap.n_new];omega),if_pos rfl]
   have z3:=fun {d:Nat} {k:K}=>same_call (cp:=cp) (fuel:=fuel) T f3.wf (gv1.stAt.fresh (f2.trans f3)) (gv2.stAt.fresh f3) (by omega) (by omega) hfu d k
   rw [decide_eq_true rfl] at z3
   obtain ⟨G4,f4,z4⟩:=told_none (cp:=cp) (fuel:=fuel) (y:=0) T f3.wf
   have z5:=fun {d:Nat} {k:K}=>works_call (cp:=cp) (fuel:=fuel) (d:=d) (k:=k) (G:=G4) hwk
   refine ⟨G4,f1.trans (f2.trans (f3.trans f4)),fun d k => ?_⟩
   have z1':=fun {k:K}=>z1 (d+1) k
   have z2':=fun {k:K}=>z2 d k
   have z4':=fun {k:K}=>z4 (d+5) k
   have i1:∀ {id:Nat} {k:R},isOne id v1 k=k:=fun {id k}=>gv1.is1
   have i2:∀ {id:Nat} {k:R},isOne id v2 k=k:=fun {id k}=>gv2.is1
   rw [call_entry T.k4 rfl rfl]
   simp only [go_sem,↓op_app,reduceCtorEq,Nat.reduceAdd,Nat.reduceSub,Nat.reduceMul,Nat.reduceEqDiff,Nat.reduceLT,Nat.reduceDiv,Nat.reduceMod,Nat.reduceLeDiff,↓reduceIte,c4,c4r1,vStr_tv,hs,d2,d3,d4,eS]
   simp only [go_sem,↓op_app,reduceCtorEq,Nat.reduceAdd,Nat.reduceSub,Nat.reduceMul,Nat.reduceEqDiff,Nat.reduceLT,Nat.reduceDiv,Nat.reduceMod,Nat.reduceLeDiff,↓reduceIte,c4r2,z1']
   simp only [go_sem,↓op_app,reduceCtorEq,Nat.reduceAdd,Nat.reduceSub,Nat.reduceMul,Nat.reduceEqDiff,Nat.reduceLT,Nat.reduceDiv,Nat.reduceMod,Nat.reduceLeDiff,↓reduceIte,c4r3,z2',hw2,l2,↓tF,hG3]
   simp only [go_sem,↓op_app,reduceCtorEq,Nat.reduceAdd,Nat.reduceSub,Nat.reduceMul,Nat.reduceEqDiff,Nat.reduceLT,Nat.reduceDiv,Nat.reduceMod,Nat.reduceLeDiff,↓reduceIte,c4r4,c4r5,z3,g3,z4',z5]
  ·rw [hpg] at p2;cases p2
 | error ca=>
  obtain ⟨c,a⟩:=ca
  have hc:=parseGo_ne0 _ _ _ _ _ hpg
  obtain ⟨G1,q,f1,q1,q2,gq,z1⟩:=parse_bad (cp:=cp) (fuel:=fuel) hA T S C hw hfu (by omega) hpg
  rcases rparse_call (cp:=cp) (fuel:=fuel) T S.nok f1.wf hfu hs2 with ⟨out2,G2,v2,p2,_⟩ | ⟨c',y',G2,p2,f2,z2⟩
  ·rw [hpg] at p2;cases p2
  ·obtain ⟨rfl,rfl⟩:c=c'∧a=y':=by rw [hpg] at p2;cases p2;exact ⟨rfl,rfl⟩
   have hw2:=f2.wf
   have l2:G2.n<G2.n+1:=by omega
   generalize hG3:(G2.new (.cells [.int 3 0, .int 3 0])).put G2.n (.cells [.int 3 c, .int 3 a])=G3
   have f23:Fresh G2 (G2.new (.cells [.int 3 0, .int 3 0])):=Fresh.new hw2
   have f3:Fresh G2 G3:=by rw [← hG3];exact f23.put (Nat.le_refl _) (by rw [Heap.n_new];omega)
   have g3:G3.get G2.n = .cells [.int 3 c, .int 3 a]:=by rw [← hG3,Heap.get_put f23.wf (by rw [Heap.n_new];omega),if_pos rfl]
   have z3:=fun {d:Nat} {k:K}=>same_call (cp:=cp) (fuel:=fuel) (es:=[]) (fs:=[]) T f3.wf StAt.none StAt.none (by simp) (by simp) hfu d k
   rw [decide_eq_true rfl] at z3
   have n2:=f2.n
   have n3:=f3.n
   obtain ⟨G4,f4,z4⟩:=told_fault (cp:=cp) (fuel:=fuel) hA hI T f3.wf (((f2.trans f3).same q q2).trans gq) (by omega) hc
   have z5:=fun {d:Nat} {k:K}=>works_call (cp:=cp) (fuel:=fuel) (d:=d) (k:=k) (G:=G4) hwk
   refine ⟨G4,f1.trans (f2.trans (f3.trans f4)),fun d k => ?_⟩
   have z1':=fun {k:K}=>z1 (d+1) k
   have z2':=fun {k:K}=>z2 d k
   have z4':=fun {k:K}=>z4 (d+5) k
   rw [call_entry T.k4 rfl rfl]
   simp only [go_sem,↓op_app,reduceCtorEq,Nat.reduceAdd,Nat.reduceSub,Nat.reduceMul,Nat.reduceEqDiff,Nat.reduceLT,Nat.reduceDiv,Nat.reduceMod,Nat.reduceLeDiff,↓reduceIte,c4,c4r1,vStr_tv,hs,d2,d3,d4,eS]
   simp only [go_sem,↓op_app,reduceCtorEq,Nat.reduceAdd,Nat.reduceSub,Nat.reduceMul,Nat.reduceEqDiff,Nat.reduceLT,Nat.reduceDiv,Nat.reduceMod,Nat.reduceLeDiff,↓reduceIte,c4r2,z1']
   simp only [go_sem,↓op_app,reduceCtorEq,Nat.reduceAdd,Nat.reduceSub,Nat.reduceMul,Nat.reduceEqDiff,Nat.reduceLT,Nat.reduceDiv,Nat.reduceMod,Nat.reduceLeDiff,↓reduceIte,c4r3,z2',hw2,l2,↓tF,hG3]
   simp only [go_sem,↓op_app,reduceCtorEq,Nat.reduceAdd,Nat.reduceSub,Nat.reduceMul,Nat.reduceEqDiff,Nat.reduceLT,Nat.reduceDiv,Nat.reduceMod,Nat.reduceLeDiff,↓reduceIte,c4r4,c4r5,z3,g3,z4',z5]
end
end Go.Ev
end
