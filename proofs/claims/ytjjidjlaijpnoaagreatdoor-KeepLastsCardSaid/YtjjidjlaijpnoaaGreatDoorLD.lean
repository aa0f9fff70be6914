/- LD: a part of the evaluator,of its logic,or of the laws' walk in it. -/
import Derived.Test.YtjjidjlaijpnoaaGreatDoorLC
set_option linter.unusedVariables false
set_option linter.unusedSimpArgs false
set_option linter.unusedSectionVars false
section
namespace Go.Ev
theorem del_enc:∀ {D:List (Nat × Tx)} {a id:Nat} {f:List (V × V)→R},delL id false (encM (encS D)) (.int 3 a) f=f (encM (encS (del D a)))
 | [],a,id,f=>rfl
 | (b,v) :: D,a,id,f=>by
  show ifB (Nat.beq a b) (f (encM (encS D))) (delL id false (encM (encS D)) (.int 3 a) fun r=>f ((.int 3 b,sv v) :: r))=_
  rw [ifB_if,del_enc]
  simp only [nbeq,del]
  by_cases h:a=b
  ·rw [if_pos h,if_pos h]
  ·rw [if_neg h,if_neg h]
   rfl
theorem find_del:∀ {es:List (Nat × Tx)} {a k:Nat},(es.map (·.1)).Nodup→find (del es a) k=if k=a then none else find es k
 | [],a,k,_=>by simp [del,find]
 | p :: es,a,k,h=>by
  rw [List.map_cons,List.nodup_cons] at h
  have ih:=find_del (es:=es) (a:=a) (k:=k) h.2
  have hk:find es p.1=none:=by
   unfold find
   rw [Option.map_eq_none_iff,List.find?_eq_none]
   intro x hx he
   exact h.1 (List.mem_map.2 ⟨x,hx,by simpa using he⟩)
  have hc:∀ (l:List (Nat × Tx)),find (p :: l) k=if p.1=k then some p.2 else find l k:=fun l=>by
   unfold find
   rw [List.find?_cons]
   by_cases he:p.1=k
   ·simp [he]
   ·have:(p.1 == k)=false:=by simpa using he
    simp [this,he]
  unfold del
  by_cases ha:a=p.1
  ·rw [if_pos ha,hc,ha]
   by_cases he:k=p.1
   ·rw [he,if_pos rfl,hk]
   ·rw [if_neg he,if_neg (fun e=>he e.symm)]
  ·rw [if_neg ha,hc,hc,ih]
   by_cases he:p.1=k
   ·rw [if_pos he,if_pos he,if_neg (by omega)]
   ·rw [if_neg he,if_neg he]
theorem del_sub:∀ {es:List (Nat × Tx)} {a:Nat} {x:Nat × Tx},x ∈ del es a→x ∈ es
 | [],a,x,h=>h
 | p :: es,a,x,h=>by
  unfold del at h
  split at h
  ·exact List.mem_cons_of_mem _ h
  ·rcases List.mem_cons.1 h with rfl | h
   ·exact List.mem_cons_self ..
   ·exact List.mem_cons_of_mem _ (del_sub h)
theorem del_nodup:∀ {es:List (Nat × Tx)} {a:Nat},(es.map (·.1)).Nodup→((del es a).map (·.1)).Nodup
 | [],a,h=>h
 | p :: es,a,h=>by
  rw [List.map_cons,List.nodup_cons] at h
  unfold del
  split
  ·exact h.2
  ·rw [List.map_cons,List.nodup_cons]
   refine ⟨fun hm => ?_,del_nodup h.2⟩
   obtain ⟨x,hx,e⟩:=List.mem_map.1 hm
   exact h.1 (List.mem_map.2 ⟨x,del_sub hx,e⟩)
theorem EsOK.del {len:Nat} {es:List (Nat × Tx)} (h:EsOK len es) (a:Nat):EsOK len (del es a):=⟨del_nodup h.nodup,fun e he=>h.lt e (del_sub he)⟩
theorem copy_enc:∀ {l acc:List (Nat × Tx)} {f:List (V × V)→R},copyL (encM (encS l)) (encM (encS acc)) f=f (encM (encS (laid acc l)))
 | [],acc,f=>rfl
 | (a,v) :: l,acc,f=>by
  show vInt 0 (.int 3 a) (fun _ _=>setL 0 false (encM (encS acc)) (.int 3 a) (sv v) fun acc'=>copyL (encM (encS l)) acc' f)=_
  show setL 0 false (encM (encS acc)) (.int 3 a) (sv v) (fun acc'=>copyL (encM (encS l)) acc' f)=_
  rw [setL_enc,upd_encS,copy_enc]
  rfl
theorem nCopyM_map {a b:Nat} {H:Heap} {k:K} {l acc:List (Nat × Tx)} (hw:H.wf) (hab:a≠b) (ha:H.get a = .map (encM (encS acc))) (han:a<H.n) (hb:H.get b = .map (encM (encS l))) :
  nCopyM [.map a, .map b] H k=k (.tup []) (H.put a (.map (encM (encS (laid acc l))))):=by
 show vMap 0 (.map a) (fun a=>vMap 0 (.map b) fun b=>ifB (Nat.beq a b) (no 0) (hGet H a fun ba=>bMap 0 ba fun ea=>hGet H b fun bb=>bMap 0 bb fun eb=>copyL eb ea fun res=>hSet 0 H a (.map res) fun H'=>k (.tup []) H'))=_
 show ifB (Nat.beq a b) (no 0) (hGet H a fun ba=>bMap 0 ba fun ea=>hGet H b fun bb=>bMap 0 bb fun eb=>copyL eb ea fun res=>hSet 0 H a (.map res) fun H'=>k (.tup []) H')=_
 rw [ifB_if,if_neg (by simp only [nbeq];exact hab),hGet_eq,ha]
 show hGet H b (fun bb=>bMap 0 bb fun eb=>copyL eb (encM (encS acc)) fun res=>hSet 0 H a (.map res) fun H'=>k (.tup []) H')=_
 rw [hGet_eq,hb]
 show copyL (encM (encS l)) (encM (encS acc)) (fun res=>hSet 0 H a (.map res) fun H'=>k (.tup []) H')=_
 rw [copy_enc,hSet_put hw han]
abbrev Un:=Nat × Tx × Bool
theorem encU_cons (u:Un) (us:List Un):encU (u :: us) = .int 3 u.1 :: sv u.2.1 :: .bool u.2.2 :: encU us:=rfl
theorem encU_drop (us:List Un) (i:Nat):(encU us).drop (i * 3)=encU (us.drop i):=by
 induction us generalizing i with
 | nil=>simp [encU]
 | cons u us ih=>
  cases i with
  | zero=>simp
  | succ i=>rw [show (i+1) * 3=i * 3+1+1+1 by omega,encU_cons,List.drop_succ_cons,List.drop_succ_cons,List.drop_succ_cons,List.drop_succ_cons,ih]
theorem encU_at {us:List Un} {i:Nat} {u:Un} (h:us[i]? = some u):(encU us)[i * 3]? = some (.int 3 u.1)∧(encU us)[i * 3+1]? = some (sv u.2.1)∧(encU us)[i * 3+2]? = some (.bool u.2.2) ∧ ∃ r,(encU us).drop (i * 3) = .int 3 u.1 :: sv u.2.1 :: .bool u.2.2 :: r:=by
 have hd:us.drop i=u :: us.drop (i+1):=by
  obtain ⟨hi,rfl⟩:=List.getElem?_eq_some_iff.1 h
  exact List.drop_eq_getElem_cons hi
 have h1:=encU_drop us i
 rw [hd,encU_cons] at h1
 have g:∀ j,(encU us)[i * 3+j]? = (V.int 3 u.1 :: sv u.2.1 :: V.bool u.2.2 :: encU (us.drop (i+1)))[j]?:=fun j=>by rw [← h1,List.getElem?_drop]
 exact ⟨g 0,g 1,g 2,_,h1⟩
section
variable {cp:RC→CodeE} {t:Nat→Option FnE} {fuel:Nat} {H:Heap}
theorem written_loop {p n ub o m:Nat} {D:DR} {es:List (Nat × Tx)} {us:List Un} {nu:Nat} {u0:Un} (hg:H.get p=D.blk) (hp:p<H.n) (hu:D.u = .slice ub 0 nu 0 3) (hub:H.get ub = .cells (encU us)) (hubn:ub<H.n) (hnu:nu=us.length) (hnb:nu<1000000) (hn:us[n]? = some u0) (ho:o=(n+1) * 3) (hm:m=nu-(n+1)) :
  ∀ (q j:Nat) (G:Heap),j+q=m→Fresh H G →
  ∃ G',Fresh H G' ∧ ∀ (ph:Phi) (kx:Nat→KE) (rr:Nat) (e:Env),q<rr→pget ⟨.i0, .i0, .i0⟩ e = .ptr p 0→pget ⟨.i0, .i0, .i1⟩ e = .int 3 n→pget ⟨.i0, .i1, .i5⟩ e = .slice ub o m 0 3→pget ⟨.i0, .i1, .i6⟩ e = .int 3 m→pget ⟨.i0, .i1, .i7⟩ e = .int 3 j →
   ∀ x:R,(∀ u,(us.drop (n+1+j)).find? (fun u=>u.1 == u0.1)=some u → ∀ e',pget ⟨.i0, .i0, .i4⟩ e'=sv u.2.1→kx 0 e' G'=x)→((us.drop (n+1+j)).find? (fun u=>u.1 == u0.1)=none → ∀ e',pget ⟨.i0, .i0, .i0⟩ e' = .ptr p 0→pget ⟨.i0, .i0, .i1⟩ e' = .int 3 n→kx 1 e' G'=x) →
   evL c23l0 fuel ph kx rr e G=x:=by
 intro q
 have hnl:n<us.length:=(List.getElem?_eq_some_iff.1 hn).1
 induction q with
 | zero=>
  intro j G hj f
  refine ⟨G,f,fun ph kx rr e hrr h0 h1 h15 h16 h17 x _ hT => ?_⟩
  obtain ⟨rr,rfl⟩:∃ q,rr=q+1:=⟨rr-1,by omega⟩
  have hjm:j=m:=by omega
  have e1:¬ m<m:=by omega
  have n1:nn m:=by unfold nn;omega
  subst hjm
  rw [evL_succ]
  simp only [go_sem,↓op_app,reduceCtorEq,Nat.reduceAdd,Nat.reduceSub,Nat.reduceMul,Nat.reduceEqDiff,Nat.reduceLT,Nat.reduceDiv,Nat.reduceMod,Nat.reduceLeDiff,↓reduceIte,c23l0,h0,h1,h15,h16,h17,e1,n1]
  refine hT ?_ _ (by simp only [go_sem,reduceCtorEq,↓reduceIte,h0]) (by simp only [go_sem,reduceCtorEq,↓reduceIte,h1])
  rw [List.drop_eq_nil_of_le (by omega)]
  rfl
 | succ q ih=>
  intro j G hj f
  have hlt:j<m:=by omega
  have hw:=f.wf
  obtain ⟨u,hu1⟩:∃ u,us[n+1+j]? = some u:=⟨_,List.getElem?_eq_getElem (by omega)⟩
  obtain ⟨a0,a1,a2,r,a3⟩:=encU_at hu1
  obtain ⟨b0,b1,b2,_,_⟩:=encU_at hn
  have hdr:us.drop (n+1+j)=u :: us.drop (n+1+(j+1)):=by
   obtain ⟨hi,rfl⟩:=List.getElem?_eq_some_iff.1 hu1
   exact List.drop_eq_getElem_cons hi
  have hel:=encU_length us
  have hgp:G.get p=D.blk:=(f.same p hp).trans hg
  have hgu:G.get ub = .cells (encU us):=(f.same ub hubn).trans hub
  generalize hG1:(G.new (.cells [.int 3 0, .str 0 0, .bool false])).put G.n (.cells [.int 3 u.1,sv u.2.1, .bool u.2.2])=G1
  have f1:Fresh H G1:=by rw [← hG1];exact Fresh.put (f.trans (Fresh.new hw)) f.n (by rw [Heap.n_new];omega)
  have e8:G.n<G.n+1:=by omega
  have g1n:G1.get G.n = .cells [.int 3 u.1,sv u.2.1, .bool u.2.2]:=by rw [← hG1];simp only [Heap.get_put,Heap.get_new,Heap.wf_put,Heap.wf_new,Heap.n_put,Heap.n_new,hw,e8,if_true]
  have g1p:G1.get p=D.blk:=(f1.same p hp).trans hg
  have g1u:G1.get ub = .cells (encU us):=(f1.same ub hubn).trans hub
  obtain ⟨G',f',hG'⟩:=ih (j+1) G1 (by omega) f1
  have f1w:=f1.wf
  have n1:nn m:=by unfold nn;omega
  have n2:nn j:=by unfold nn;omega
  have e2:j<9223372036854775808:=by omega
  have e3:(j+1) % 18446744073709551616=j+1:=by omega
  have e4:o+j * 3≤(encU us).length:=by omega
  have e5:3≤((encU us).drop (o+j * 3)).length:=by rw [List.length_drop];omega
  have hoj:(n+1+j) * 3=o+j * 3:=by rw [ho];omega
  have e6:((encU us).drop (o+j * 3)).take 3=[.int 3 u.1,sv u.2.1, .bool u.2.2]:=by rw [← hoj,a3];rfl
  have e7:n<nu:=by omega
  have e9:n<9223372036854775808:=by omega
  have hnth:∀ {id:Nat} {k:V→R},nth id (encU us) (n * 3) k=k (.int 3 u0.1):=nth_get b0
  by_cases he:u.1=u0.1
  ·refine ⟨G1,f1,fun ph kx rr e hrr h0 h1 h15 h16 h17 x hY hT => ?_⟩
   obtain ⟨rr,rfl⟩:∃ q,rr=q+1:=⟨rr-1,by omega⟩
   have hf:(us.drop (n+1+j)).find? (fun u=>u.1 == u0.1)=some u:=by rw [hdr,List.find?_cons];simp [he]
   have he':(u.1=u0.1)=True:=eq_true he
   rw [evL_succ]
   simp only [DR.blk,hu,sv] at g1p g1n g1u hG1 e6 hgp
   simp only [go_sem,↓op_app,reduceCtorEq,Nat.reduceAdd,Nat.reduceSub,Nat.reduceMul,Nat.reduceEqDiff,Nat.reduceLT,Nat.reduceDiv,Nat.reduceMod,Nat.reduceLeDiff,↓reduceIte,c23l0,h0,h1,h15,h16,h17,hlt,n1,n2,e2,hw,hgu,e4,e5,e6,e8,hG1,g1n,g1p,g1u,f1w,e7,e9,hnth,he']
   exact hY u hf _ (by simp only [go_sem,↓op_app,reduceCtorEq,Nat.reduceAdd,Nat.reduceSub,Nat.reduceMul,Nat.reduceEqDiff,Nat.reduceLT,Nat.reduceDiv,Nat.reduceMod,Nat.reduceLeDiff,↓reduceIte,sv])
  ·refine ⟨G',f',fun ph kx rr e hrr h0 h1 h15 h16 h17 x hY hT => ?_⟩
   obtain ⟨rr,rfl⟩:∃ q,rr=q+1:=⟨rr-1,by omega⟩
   have hf:(us.drop (n+1+j)).find? (fun u=>u.1 == u0.1)=(us.drop (n+1+(j+1))).find? (fun u=>u.1 == u0.1):=by
    rw [hdr,List.find?_cons,show (u.1 == u0.1)=false by simpa using he]
   rw [hf] at hY hT
   rw [evL_succ]
   simp only [DR.blk,hu,sv] at g1p g1n g1u hG1 e6 hgp
   simp only [go_sem,↓op_app,reduceCtorEq,Nat.reduceAdd,Nat.reduceSub,Nat.reduceMul,Nat.reduceEqDiff,Nat.reduceLT,Nat.reduceDiv,Nat.reduceMod,Nat.reduceLeDiff,↓reduceIte,c23l0,h0,h1,h15,h16,h17,hlt,n1,n2,e2,hw,hgu,e4,e5,e6,e8,hG1,g1n,g1p,g1u,f1w,e7,e9,hnth,he,e3]
   refine hG' ph kx rr _ (by omega) ?_ ?_ ?_ ?_ ?_ x hY hT <;> simp only [go_sem,reduceCtorEq,↓reduceIte,h0,h1,h15,h16]
theorem written_call (T:TCode t) {p n:Nat} {D:DR} {es:List (Nat × Tx)} {us:List Un} {u0:Un} (h:DiskIs H p D es (encU us)) (hnb:us.length<1000000) (hn:us[n]? = some u0) (hfu:us.length<fuel) :
  ∃ H',Fresh H H' ∧ ∀ (d:Nat) (k:K),callP (evP cp t fuel (d+1)) (.func 46 []) [.ptr p 0, .int 3 n] H k=k (sv (match (us.drop (n+1)).find? (fun u=>u.1 == u0.1) with | some u=>u.2.1 | none=>(find es u0.1).getD (0,0))) H':=by
 have hnl:n<us.length:=(List.getElem?_eq_some_iff.1 hn).1
 have hw:=h.wf
 obtain ⟨ub,nu,hu,hus,hn0,hub,hubn,hup,hum⟩:∃ ub nu,D.u = .slice ub 0 nu 0 3∧(encU us).length=nu * 3∧0<nu∧H.get ub = .cells (encU us)∧ub<H.n∧ub≠p∧ub≠D.m:=by
  rcases h.undo with ⟨_,he⟩ | he
  ·have:=congrArg List.length he
   rw [encU_length] at this
   simp only [List.length_nil] at this
   omega
  ·exact he
 have hnu:nu=us.length:=by rw [encU_length] at hus;omega
 obtain ⟨H',f',hL⟩:=written_loop (fuel:=fuel) (es:=es) h.hg h.hp hu hub hubn hnu (by omega) hn rfl rfl (nu-(n+1)) 0 H (by omega) (Fresh.refl hw)
 refine ⟨H',f',fun d k => ?_⟩
 obtain ⟨b0,b1,b2,_,_⟩:=encU_at hn
 have hgp':H'.get p=D.blk:=(f'.same p h.hp).trans h.hg
 have hgm':H'.get D.m = .map (encM (encS es)):=(f'.same _ h.hmn).trans h.hm
 have hgu':H'.get ub = .cells (encU us):=(f'.same _ hubn).trans hub
 have hgp:=h.hg
 have hw':=f'.wf
 have e1:(n+1) % 18446744073709551616=n+1:=by omega
 have e2:n+1<9223372036854775808:=by omega
 have e3:n+1≤nu:=by omega
 have e4:nu≤nu:=Nat.le_refl _
 have e5:nu-(n+1)<9223372036854775808:=by omega
 have e7:n<nu:=by omega
 have e9:n<9223372036854775808:=by omega
 have hnth:∀ {id:Nat} {k:V→R},nth id (encU us) (n * 3) k=k (.int 3 u0.1):=nth_get b0
 have hlk:=lkp_encS es u0.1
 simp only [DR.blk,hu] at hgp hgp'
 rw [call_entry T.k23 rfl rfl]
 simp only [go_sem,↓op_app,reduceCtorEq,Nat.reduceAdd,Nat.reduceSub,Nat.reduceMul,Nat.reduceEqDiff,Nat.reduceLT,Nat.reduceDiv,Nat.reduceMod,Nat.reduceLeDiff,↓reduceIte,c23,hgp,hw,e1,e2,e3,e4,e5]
 refine hL _ _ fuel _ (by omega) ?_ ?_ ?_ ?_ ?_ _ (fun u hf e' h4 => ?_) (fun hf e' h0 h1 => ?_)
 ·simp only [go_sem,reduceCtorEq,↓reduceIte]
 ·simp only [go_sem,reduceCtorEq,↓reduceIte]
 ·simp only [go_sem,reduceCtorEq,↓reduceIte]
 ·simp only [go_sem,reduceCtorEq,↓reduceIte]
 ·simp only [go_sem,reduceCtorEq,↓reduceIte]
 ·rw [Nat.add_zero] at hf
  simp only [go_sem,↓op_app,reduceCtorEq,Nat.reduceAdd,Nat.reduceSub,Nat.reduceMul,Nat.reduceEqDiff,Nat.reduceLT,Nat.reduceDiv,Nat.reduceMod,Nat.reduceLeDiff,↓reduceIte,h4,hf]
 ·rw [Nat.add_zero] at hf
  cases hfi:find es u0.1 with
  | some q=>
   rw [hfi] at hlk
   simp only [Option.map_some,sv] at hlk
   simp only [go_sem,↓op_app,reduceCtorEq,Nat.reduceAdd,Nat.reduceSub,Nat.reduceMul,Nat.reduceEqDiff,Nat.reduceLT,Nat.reduceDiv,Nat.reduceMod,Nat.reduceLeDiff,↓reduceIte,h0,h1,hgp',hgm',hgu',hw',e7,e9,hnth,hlk,hf,Option.getD_some,sv]
  | none=>
   rw [hfi] at hlk
   simp only [Option.map_none] at hlk
   simp only [go_sem,↓op_app,reduceCtorEq,Nat.reduceAdd,Nat.reduceSub,Nat.reduceMul,Nat.reduceEqDiff,Nat.reduceLT,Nat.reduceDiv,Nat.reduceMod,Nat.reduceLeDiff,↓reduceIte,h0,h1,hgp',hgm',hgu',hw',e7,e9,hnth,hlk,hf,Option.getD_none,sv]
end
end Go.Ev
end
section
namespace Go.Ev
def KpAt (H:Heap) (v:V) (bs:List Bool):Prop:=(NoneV v∧bs=[]) ∨ ∃ b o c s row,v = .slice b o bs.length c s∧isRow (H.get b) row∧b<H.n ∧ ∀ i x,bs[i]? = some x→row[o+i]? = some (.bool x)
theorem KpAt.fresh {H H':Heap} {v:V} {bs:List Bool} (h:KpAt H v bs) (f:Fresh H H'):KpAt H' v bs:=by
 rcases h with h | ⟨b,o,c,s,row,h1,h2,h3,h4⟩
 ·exact Or.inl h
 ·exact Or.inr ⟨b,o,c,s,row,h1,by rw [f.same b h3];exact h2,Nat.lt_of_lt_of_le h3 f.n,h4⟩
def writtenL (es:List (Nat × Tx)) (us:List Un) (n a:Nat):Tx:=match (us.drop (n+1)).find? (fun u=>u.1 == a) with
 | some u=>u.2.1
 | none=>(find es a).getD (0,0)
def lastN (es:List (Nat × Tx)) (us:List Un) (bs:List Bool):Nat→List (Nat × Tx)
 | 0 => []
 | i+1=>if bs[i]? = some true then (match us[i]? with | some u=>updS (lastN es us bs i) u.1 (writtenL es us i u.1) | none=>lastN es us bs i) else lastN es us bs i
theorem DiskIs.freshen {H G:Heap} {p:Nat} {D:DR} {es:List (Nat × Tx)} {us:List V} (h:DiskIs H p D es us) (f:Fresh H G):DiskIs G p D es us:=by
 refine ⟨f.wf,Nat.lt_of_lt_of_le h.hp f.n,(f.same _ h.hp).trans h.hg,(f.same _ h.hmn).trans h.hm,Nat.lt_of_lt_of_le h.hmn f.n,h.hmp, ?_,h.hl,h.hr,h.hf,h.he⟩
 rcases h.undo with hu | ⟨ub,n,hu,g1,g2,g3,g4,g5⟩
 ·exact Or.inl hu
 ·exact Or.inr ⟨ub,n,hu,g1,g2,(f.same _ g4).trans g3,Nat.lt_of_lt_of_le g4 f.n,g5⟩
theorem DiskIs.mark {H:Heap} {p:Nat} {D:DR} {es:List (Nat × Tx)} {us:List V} (h:DiskIs H p D es us):DiskIs H.mark p D es us:=by
 obtain ⟨a1,a2,a3,a4,a5,a6,a7,a8,a9,a10,a11⟩:=h
 refine ⟨by rw [Heap.wf_mark];exact a1,a2,a3,a4,a5,a6,a7,a8,a9,a10,a11⟩
section
variable {cp:RC→CodeE} {t:Nat→Option FnE} {fuel:Nat} {H:Heap}
set_option maxHeartbeats 1000000 in
theorem last_loop (T:TCode t) {p B M:Nat} {D:DR} {es:List (Nat × Tx)} {us:List Un} {bs:List Bool} {kv uv:V} {nu:Nat} (hD:DiskIs H p D es (encU us)) (hnu:nu=us.length) (hnb:us.length<1000000) (huv:uv=D.u) (hkv:KpAt H kv bs) (hkb:bs.length<9223372036854775808) (hB:H.n≤B) (hM:H.n≤M) (hBM:B≠M) (hfu:us.length<fuel) :
  ∀ (q i:Nat) (G:Heap),i+q=nu→Fresh H G→G.get B = .cells [.ptr p 0]→B<G.n→G.get M = .map (encM (encS (lastN es us bs i)))→M<G.n →
  ∃ G',Fresh H G'∧G'.get B = .cells [.ptr p 0]∧B<G'.n∧G'.get M = .map (encM (encS (lastN es us bs nu)))∧M<G'.n ∧ ∀ (d:Nat) (kx:Nat→KE) (rr:Nat) (e:Env),q<rr→pget ⟨.i0, .i0, .i2⟩ e = .ptr B 0→pget ⟨.i0, .i0, .i1⟩ e=kv→pget ⟨.i0, .i0, .i4⟩ e = .map M→pget ⟨.i0, .i2, .i0⟩ e=uv→pget ⟨.i0, .i2, .i1⟩ e = .int 3 nu→pget ⟨.i0, .i2, .i2⟩ e = .int 3 i →
   ∀ x:R,(∀ e',pget ⟨.i0, .i0, .i2⟩ e' = .ptr B 0→pget ⟨.i0, .i0, .i4⟩ e' = .map M→kx 1 e' G'=x) →
   evL c11l0 fuel (evP cp t fuel (d+1)) kx rr e G=x:=by
 intro q
 induction q with
 | zero=>
  intro i G hi f hgB hBn hgM hMn
  have hin:i=nu:=by omega
  subst hin
  refine ⟨G,f,hgB,hBn,hgM,hMn,fun d kx rr e hrr h2 h1 h4 h20 h21 h22 x hT => ?_⟩
  obtain ⟨rr,rfl⟩:∃ q,rr=q+1:=⟨rr-1,by omega⟩
  have e1:¬ i<i:=by omega
  have n1:nn i:=by unfold nn;omega
  rw [evL_succ]
  simp only [go_sem,↓op_app,reduceCtorEq,Nat.reduceAdd,Nat.reduceSub,Nat.reduceMul,Nat.reduceEqDiff,Nat.reduceLT,Nat.reduceDiv,Nat.reduceMod,Nat.reduceLeDiff,↓reduceIte,c11l0,h2,h1,h4,h20,h21,h22,e1,n1]
  exact hT _ (by simp only [go_sem,reduceCtorEq,↓reduceIte,h2]) (by simp only [go_sem,reduceCtorEq,↓reduceIte,h4])
 | succ q ih=>
  intro i G hi f hgB hBn hgM hMn
  have hw:=f.wf
  have hlt:i<nu:=by omega
  obtain ⟨u,hu1⟩:∃ u,us[i]? = some u:=⟨_,List.getElem?_eq_getElem (by omega)⟩
  obtain ⟨a0,a1,a2,r,a3⟩:=encU_at hu1
  have hel:=encU_length us
  obtain ⟨ub,hu,hub,hubn⟩:∃ ub,uv = .slice ub 0 nu 0 3∧H.get ub = .cells (encU us)∧ub<H.n:=by
   rcases hD.undo with ⟨_,he⟩ | ⟨ub,n,hu,hus,hn0,hub,hubn,_⟩
   ·have:=congrArg List.length he
    rw [encU_length] at this
    simp only [List.length_nil] at this
    omega
   ·exact ⟨ub,by rw [huv,hu];congr 1;rw [encU_length] at hus;omega,hub,hubn⟩
  have hgu:G.get ub = .cells (encU us):=(f.same ub hubn).trans hub
  generalize hG1:(G.new (.cells [.int 3 0, .str 0 0, .bool false])).put G.n (.cells [.int 3 u.1,sv u.2.1, .bool u.2.2])=G1
  have f1:Fresh H G1:=by rw [← hG1];exact Fresh.put (f.trans (Fresh.new hw)) f.n (by rw [Heap.n_new];omega)
  have e8:G.n<G.n+1:=by omega
  have g1n:G1.get G.n = .cells [.int 3 u.1,sv u.2.1, .bool u.2.2]:=by rw [← hG1];simp only [Heap.get_put,Heap.get_new,Heap.wf_put,Heap.wf_new,Heap.n_put,Heap.n_new,hw,e8,if_true]
  have g1o:∀ b,b<G.n→G1.get b=G.get b:=fun b hb=>by
   rw [← hG1,Heap.get_put (by rw [Heap.wf_new];exact hw) (by rw [Heap.n_new];omega),if_neg (by omega),Heap.get_new hw,if_neg (by omega)]
  have g1l:G1.n=G.n+1:=by rw [← hG1];simp only [Heap.n_put,Heap.n_new]
  have g1B:=(g1o B hBn).trans hgB
  have g1M:=(g1o M hMn).trans hgM
  have f1w:=f1.wf
  have hK1:=hkv.fresh f1
  have n1:nn nu:=by unfold nn;omega
  have n2:nn i:=by unfold nn;omega
  have nb:nn bs.length:=by unfold nn;omega
  have e2:i<9223372036854775808:=by omega
  have e3:(i+1) % 18446744073709551616=i+1:=by omega
  have e4:i * 3≤(encU us).length:=by omega
  have e5:3≤((encU us).drop (i * 3)).length:=by rw [List.length_drop];omega
  have e6:((encU us).drop (i * 3)).take 3=[.int 3 u.1,sv u.2.1, .bool u.2.2]:=by rw [a3];rfl
  by_cases hk:bs[i]? = some true
  ·have hib:i<bs.length:=(List.getElem?_eq_some_iff.1 hk).1
   obtain ⟨b,o,c,s,row,rfl,hr1,hr2,hr3⟩:∃ b o c s row,kv = .slice b o bs.length c s∧isRow (G1.get b) row∧b<G1.n ∧ ∀ i x,bs[i]? = some x→row[o+i]? = some (.bool x):=by
    rcases hK1 with ⟨_,h0⟩ | h
    ·rw [h0] at hib;simp at hib
    ·exact h
   have hrd:∀ {id:Nat} {k:V→R},rdB id (G1.get b) (o+i) k=k (.bool true):=rd_row hr1 (hr3 i true hk) rfl
   obtain ⟨G2m,f2m,hc2⟩:=written_call (cp:=cp) (fuel:=fuel) (u0:=u) T (hD.freshen f1).mark hnb hu1 hfu
   obtain ⟨f2,hlo⟩:=f2m.unmark
   generalize hG2:G2m.unmark G1.wlo=G2 at f2
   have f2w:=f2.wf
   have g2M:=(f2.same M (by omega)).trans g1M
   have f02:=f1.trans f2
   have hMn2:M<G2.n:=by have:=f2.n;omega
   have hset:upd (encS (lastN es us bs i)) u.1 (sv (writtenL es us i u.1))=encS (updS (lastN es us bs i) u.1 (writtenL es us i u.1)):=upd_encS _ _ _
   have hlast:lastN es us bs (i+1)=updS (lastN es us bs i) u.1 (writtenL es us i u.1):=by simp only [lastN,hk,hu1,if_true]
   generalize hG3:G2.put M (.map (encM (encS (lastN es us bs (i+1)))))=G3
   have f3:Fresh H G3:=by rw [← hG3];exact Fresh.put f02 hM hMn2
   have g3o:∀ b,b≠M→G3.get b=G2.get b:=fun b hb=>by rw [← hG3,Heap.get_put f2w hMn2,if_neg hb]
   have g3l:G3.n=G2.n:=by rw [← hG3];exact Heap.n_put
   obtain ⟨G',f',q1,q2,q3,q4,hG'⟩:=ih (i+1) G3 (by omega) f3 (by rw [g3o B hBM,f2.same B (by omega)];exact g1B) (by have:=f2.n;omega) (by rw [← hG3,Heap.get_put f2w hMn2,if_pos rfl]) (by omega)
   refine ⟨G',f',q1,q2,q3,q4,fun d kx rr e hrr h2 h1 h4 h20 h21 h22 x hT => ?_⟩
   obtain ⟨rr,rfl⟩:∃ q,rr=q+1:=⟨rr-1,by omega⟩
   rw [hu] at h20
   have hc2':∀ {k:K},callP (evP cp t fuel (d+1)) (.func 46 []) [.ptr p 0, .int 3 i] G1.mark k=k (.str (writtenL es us i u.1).1 (writtenL es us i u.1).2) G2m:=fun {k}=>hc2 d k
   rw [evL_succ]
   simp only [sv] at g1n hG1 e6 hset
   simp only [go_sem,↓op_app,reduceCtorEq,Nat.reduceAdd,Nat.reduceSub,Nat.reduceMul,Nat.reduceEqDiff,Nat.reduceLT,Nat.reduceDiv,Nat.reduceMod,Nat.reduceLeDiff,↓reduceIte,c11l0,h2,h1,h4,h20,h21,h22,hlt,hib,hkb,n1,n2,nb,e2,hw,hgu,e4,e5,e6,e8,hG1,g1n,g1B,f1w,hrd,hc2',hlo,hG2,g2M,f2w,hMn2,hset,← hlast,hG3,e3]
   refine hG' d kx rr _ (by omega) ?_ ?_ ?_ ?_ ?_ ?_ x hT <;> simp only [go_sem,↓op_app,reduceCtorEq,Nat.reduceAdd,Nat.reduceSub,Nat.reduceMul,Nat.reduceEqDiff,Nat.reduceLT,Nat.reduceDiv,Nat.reduceMod,Nat.reduceLeDiff,↓reduceIte,h2,h1,h4,h20,h21,h22,hu]
  ·have hlast:lastN es us bs (i+1)=lastN es us bs i:=by simp only [lastN,hk,if_false]
   obtain ⟨G',f',q1,q2,q3,q4,hG'⟩:=ih (i+1) G1 (by omega) f1 g1B (by omega) (by rw [hlast];exact g1M) (by omega)
   refine ⟨G',f',q1,q2,q3,q4,fun d kx rr e hrr h2 h1 h4 h20 h21 h22 x hT => ?_⟩
   obtain ⟨rr,rfl⟩:∃ q,rr=q+1:=⟨rr-1,by omega⟩
   rw [hu] at h20
   rw [evL_succ]
   simp only [sv] at g1n hG1 e6
   by_cases hib:i<bs.length
   ·obtain ⟨b,o,c,s,row,rfl,hr1,hr2,hr3⟩:∃ b o c s row,kv = .slice b o bs.length c s∧isRow (G1.get b) row∧b<G1.n ∧ ∀ i x,bs[i]? = some x→row[o+i]? = some (.bool x):=by
     rcases hK1 with ⟨_,h0⟩ | h
     ·rw [h0] at hib;simp at hib
     ·exact h
    have hbf:bs[i]? = some false:=by
     rw [List.getElem?_eq_getElem hib] at hk ⊢
     cases hq:bs[i] with
     | true=>rw [hq] at hk;exact absurd rfl hk
     | false=>rfl
    have hrd:∀ {id:Nat} {k:V→R},rdB id (G1.get b) (o+i) k=k (.bool false):=rd_row hr1 (hr3 i false hbf) rfl
    simp only [go_sem,↓op_app,reduceCtorEq,Nat.reduceAdd,Nat.reduceSub,Nat.reduceMul,Nat.reduceEqDiff,Nat.reduceLT,Nat.reduceDiv,Nat.reduceMod,Nat.reduceLeDiff,↓reduceIte,c11l0,h2,h1,h4,h20,h21,h22,hlt,hib,hkb,n1,n2,nb,e2,hw,hgu,e4,e5,e6,e8,hG1,g1n,g1B,f1w,hrd,e3]
    refine hG' d kx rr _ (by omega) ?_ ?_ ?_ ?_ ?_ ?_ x hT <;> simp only [go_sem,↓op_app,reduceCtorEq,Nat.reduceAdd,Nat.reduceSub,Nat.reduceMul,Nat.reduceEqDiff,Nat.reduceLT,Nat.reduceDiv,Nat.reduceMod,Nat.reduceLeDiff,↓reduceIte,h2,h1,h4,h20,h21,h22,hu]
   ·rcases hkv with ⟨rfl | ⟨b,o,c,s,rfl⟩,rfl⟩ | ⟨b,o,c,s,row,rfl,_⟩
    ·have n0:nn 0:=by unfold nn;omega
     have e0:¬ i<0:=by omega
     simp only [go_sem,↓op_app,reduceCtorEq,Nat.reduceAdd,Nat.reduceSub,Nat.reduceMul,Nat.reduceEqDiff,Nat.reduceLT,Nat.reduceDiv,Nat.reduceMod,Nat.reduceLeDiff,↓reduceIte,c11l0,h2,h1,h4,h20,h21,h22,hlt,e0,n1,n2,n0,e2,hw,hgu,e4,e5,e6,e8,hG1,g1n,g1B,f1w,e3]
     refine hG' d kx rr _ (by omega) ?_ ?_ ?_ ?_ ?_ ?_ x hT <;> simp only [go_sem,↓op_app,reduceCtorEq,Nat.reduceAdd,Nat.reduceSub,Nat.reduceMul,Nat.reduceEqDiff,Nat.reduceLT,Nat.reduceDiv,Nat.reduceMod,Nat.reduceLeDiff,↓reduceIte,h2,h1,h4,h20,h21,h22,hu]
    ·have n0:nn 0:=by unfold nn;omega
     have e0:¬ i<0:=by omega
     have e00:(0:Nat)<9223372036854775808:=by omega
     simp only [go_sem,↓op_app,reduceCtorEq,Nat.reduceAdd,Nat.reduceSub,Nat.reduceMul,Nat.reduceEqDiff,Nat.reduceLT,Nat.reduceDiv,Nat.reduceMod,Nat.reduceLeDiff,↓reduceIte,c11l0,h2,h1,h4,h20,h21,h22,hlt,e0,e00,n1,n2,n0,e2,hw,hgu,e4,e5,e6,e8,hG1,g1n,g1B,f1w,e3]
     refine hG' d kx rr _ (by omega) ?_ ?_ ?_ ?_ ?_ ?_ x hT <;> simp only [go_sem,↓op_app,reduceCtorEq,Nat.reduceAdd,Nat.reduceSub,Nat.reduceMul,Nat.reduceEqDiff,Nat.reduceLT,Nat.reduceDiv,Nat.reduceMod,Nat.reduceLeDiff,↓reduceIte,h2,h1,h4,h20,h21,h22,hu]
    ·simp only [go_sem,↓op_app,reduceCtorEq,Nat.reduceAdd,Nat.reduceSub,Nat.reduceMul,Nat.reduceEqDiff,Nat.reduceLT,Nat.reduceDiv,Nat.reduceMod,Nat.reduceLeDiff,↓reduceIte,c11l0,h2,h1,h4,h20,h21,h22,hlt,hib,hkb,n1,n2,nb,e2,hw,hgu,e4,e5,e6,e8,hG1,g1n,g1B,f1w,e3]
     refine hG' d kx rr _ (by omega) ?_ ?_ ?_ ?_ ?_ ?_ x hT <;> simp only [go_sem,↓op_app,reduceCtorEq,Nat.reduceAdd,Nat.reduceSub,Nat.reduceMul,Nat.reduceEqDiff,Nat.reduceLT,Nat.reduceDiv,Nat.reduceMod,Nat.reduceLeDiff,↓reduceIte,h2,h1,h4,h20,h21,h22,hu]
end
end Go.Ev
end
section
namespace Go.Ev
def rest1 (es:List (Nat × Tx)) (u:Un):List (Nat × Tx):=if u.2.2=true then updS es u.1 u.2.1 else del es u.1
def restI (us:List Un):Nat→List (Nat × Tx)→List (Nat × Tx)
 | 0,es=>es
 | i+1,es=>restI us i (match us[i]? with | some u=>rest1 es u | none=>es)
def two (m l b:Nat):Prop:=b=m∨b=l
structure Rd (B0 G:Heap) (m l:Nat) (es:List (Nat × Tx)) (lp:Blk):Prop where
 step:Step B0 (two m l) G (two m l)
 map:G.get m = .map (encM (encS es))
 lp:G.get l=lp
section
variable {cp:RC→CodeE} {t:Nat→Option FnE} {fuel:Nat}
set_option maxHeartbeats 1000000 in
theorem yld_round {B0 G:Heap} {p B l i:Nat} {D:DR} {es:List (Nat × Tx)} {u:Un} {e0:Env} (hca:cp r11.1=c11a) (hcb:cp r11.2=c11b)
  (hR:Rd B0 G D.m l es (.loop 0 0 e0 [⟨.i0, .i5, .i6⟩,⟨.i0, .i5, .i7⟩] r11.1 r11.2)) (hp:B0.get p=D.blk) (hpn:p<B0.n) (hB:B0.get B = .cells [.ptr p 0]) (hBn:B<B0.n) (hmn:D.m<B0.n) (hln:l<B0.n) (hpm:p≠D.m) (hpl:p≠l) (hBm:B≠D.m) (hBl:B≠l) (hml:D.m≠l) (he0:pget ⟨.i0, .i0, .i2⟩ e0 = .ptr B 0) :
  ∃ G',Rd B0 G' D.m l (rest1 es u) (.loop 0 0 e0 [⟨.i0, .i5, .i6⟩,⟨.i0, .i5, .i7⟩] r11.1 r11.2) ∧ ∀ (d:Nat) (k:K),callP (evP cp t fuel (d+1)) (.yld l) [.int 3 i, .agg [.int 3 u.1,sv u.2.1, .bool u.2.2]] G k=k (.bool true) G':=by
 obtain ⟨hs,hm,hl⟩:=hR
 have hw:=hs.wf
 have hpG:G.get p=D.blk:=((hs.same p hpn (fun h=>h.elim hpm hpl)).1).trans hp
 have hBG:G.get B = .cells [.ptr p 0]:=((hs.same B hBn (fun h=>h.elim hBm hBl)).1).trans hB
 have hn:=hs.n
 generalize hG1:(G.new (.cells [.int 3 0, .str 0 0, .bool false])).put G.n (.cells [.int 3 u.1,sv u.2.1, .bool u.2.2])=G1
 have e8:G.n<G.n+1:=by omega
 have g1w:G1.wf:=by rw [← hG1,Heap.wf_put,Heap.wf_new];exact hw
 have g1n:G1.n=G.n+1:=by rw [← hG1,Heap.n_put,Heap.n_new]
 have g1c:G1.get G.n = .cells [.int 3 u.1,sv u.2.1, .bool u.2.2]:=by rw [← hG1];simp only [Heap.get_put,Heap.get_new,Heap.wf_put,Heap.wf_new,Heap.n_put,Heap.n_new,hw,e8,if_true]
 have g1o:∀ b,b<G.n→G1.get b=G.get b:=fun b hb=>by
  rw [← hG1,Heap.get_put (by rw [Heap.wf_new];exact hw) (by rw [Heap.n_new];omega),if_neg (by omega),Heap.get_new hw,if_neg (by omega)]
 have g1lo:∀ lo,lo≤G.wlo→lo≤G.n→lo≤G1.wlo:=fun lo h1 h2=>by rw [← hG1];exact Heap.lo_put (Heap.lo_new h1) h2
 generalize hG2:G1.put l (.loop 1 0 e0 [⟨.i0, .i5, .i6⟩,⟨.i0, .i5, .i7⟩] r11.1 r11.2)=G2
 have hl1:l<G1.n:=by omega
 have g2w:G2.wf:=by rw [← hG2,Heap.wf_put];exact g1w
 have g2n:G2.n=G1.n:=by rw [← hG2,Heap.n_put]
 have g2o:∀ b,b≠l→G2.get b=G1.get b:=fun b hb=>by rw [← hG2,Heap.get_put g1w hl1,if_neg hb]
 have g2l:G2.get l = .loop 1 0 e0 [⟨.i0, .i5, .i6⟩,⟨.i0, .i5, .i7⟩] r11.1 r11.2:=by rw [← hG2,Heap.get_put g1w hl1,if_pos rfl]
 have g2c:G2.get G.n = .cells [.int 3 u.1,sv u.2.1, .bool u.2.2]:=(g2o _ (by omega)).trans g1c
 have g2p:G2.get p=D.blk:=(g2o p hpl).trans ((g1o p (by omega)).trans hpG)
 have g2B:G2.get B = .cells [.ptr p 0]:=(g2o B hBl).trans ((g1o B (by omega)).trans hBG)
 have g2m:G2.get D.m = .map (encM (encS es)):=(g2o _ hml).trans ((g1o _ (by omega)).trans hm)
 have hm2:D.m<G2.n:=by omega
 generalize hG3:G2.put D.m (.map (encM (encS (rest1 es u))))=G3
 have g3w:G3.wf:=by rw [← hG3,Heap.wf_put];exact g2w
 have g3n:G3.n=G2.n:=by rw [← hG3,Heap.n_put]
 have g3o:∀ b,b≠D.m→G3.get b=G2.get b:=fun b hb=>by rw [← hG3,Heap.get_put g2w hm2,if_neg hb]
 have g3m:G3.get D.m = .map (encM (encS (rest1 es u))):=by rw [← hG3,Heap.get_put g2w hm2,if_pos rfl]
 have hl3:l<G3.n:=by omega
 refine ⟨G3.put l (.loop 0 0 e0 [⟨.i0, .i5, .i6⟩,⟨.i0, .i5, .i7⟩] r11.1 r11.2),⟨⟨by rw [Heap.wf_put];exact g3w,by rw [Heap.n_put];omega,fun b hb ho=>⟨?_,ho⟩,fun lo h1 h2 h3=>⟨?_,h3⟩⟩, ?_, ?_⟩,fun d k => ?_⟩
 ·have h1:b≠D.m:=fun e=>ho (Or.inl e)
  have h2:b≠l:=fun e=>ho (Or.inr e)
  rw [Heap.get_put g3w hl3,if_neg h2,g3o b h1,g2o b h2,g1o b (by omega)]
  exact (hs.same b hb ho).1
 ·have h4:=(hs.lo lo h1 h2 h3).1
  refine Heap.lo_put ?_ (h3 l (Or.inr rfl))
  rw [← hG3]
  refine Heap.lo_put ?_ (h3 _ (Or.inl rfl))
  rw [← hG2]
  exact Heap.lo_put (g1lo lo h4 (by omega)) (h3 l (Or.inr rfl))
 ·rw [Heap.get_put g3w hl3,if_neg hml];exact g3m
 ·rw [Heap.get_put g3w hl3,if_pos rfl]
 ·rw [callP_yld]
  refine evY_round (e1:=pset ⟨.i0, .i5, .i7⟩ (.agg [.int 3 u.1,sv u.2.1, .bool u.2.2]) (pset ⟨.i0, .i5, .i6⟩ (.int 3 i) e0)) (e2:=pset ⟨.i0, .i1, .i0⟩ (.ptr G.n 0) (pset ⟨.i0, .i5, .i7⟩ (.agg [.int 3 u.1,sv u.2.1, .bool u.2.2]) (pset ⟨.i0, .i5, .i6⟩ (.int 3 i) e0))) (H2:=G1) (H3:=G3) hl (fun f => ?_) (fun kn kx => ?_) ((g1o l (by omega)).trans hl) g1w hl1 (fun kn kx => ?_) ((g3o l hml.symm).trans g2l) g3w hl3
  ·simp only [go_sem,reduceCtorEq,↓reduceIte]
  ·rw [hca]
   simp only [sv] at hG1 ⊢
   simp only [go_sem,↓op_app,reduceCtorEq,Nat.reduceAdd,Nat.reduceSub,Nat.reduceMul,Nat.reduceEqDiff,Nat.reduceLT,Nat.reduceDiv,Nat.reduceMod,Nat.reduceLeDiff,↓reduceIte,c11a,hw,e8,hG1]
  ·rw [hcb,hG2]
   simp only [sv,DR.blk] at g2c g2p
   cases hu:u.2.2 with
   | true=>
    have hr1:rest1 es u=updS es u.1 u.2.1:=by simp only [rest1,hu,if_true]
    have hset:upd (encS es) u.1 (.str u.2.1.1 u.2.1.2)=encS (updS es u.1 u.2.1):=upd_encS _ _ _
    rw [hu] at g2c
    rw [hr1] at hG3
    refine ⟨?_, ?_⟩
    rotate_left
    ·simp only [go_sem,↓op_app,reduceCtorEq,Nat.reduceAdd,Nat.reduceSub,Nat.reduceMul,Nat.reduceEqDiff,Nat.reduceLT,Nat.reduceDiv,Nat.reduceMod,Nat.reduceLeDiff,↓reduceIte,c11b,he0,g2c,g2B,g2p,g2m,g2w,hm2,hset,hG3]
     rfl
   | false=>
    have hr1:rest1 es u=del es u.1:=by simp only [rest1,hu,Bool.false_eq_true,if_false]
    rw [hu] at g2c
    rw [hr1] at hG3
    refine ⟨?_, ?_⟩
    rotate_left
    ·simp only [go_sem,↓op_app,reduceCtorEq,Nat.reduceAdd,Nat.reduceSub,Nat.reduceMul,Nat.reduceEqDiff,Nat.reduceLT,Nat.reduceDiv,Nat.reduceMod,Nat.reduceLeDiff,↓reduceIte,c11b,op_mdel,he0,g2c,g2B,g2p,g2m,g2w,hm2,del_enc,hG3]
     rfl
end
end Go.Ev
end
section
namespace Go.Ev
section
variable {cp:RC→CodeE} {t:Nat→Option FnE} {fuel:Nat}
set_option maxHeartbeats 1000000 in
theorem back_loop {B0:Heap} {p B X l nu:Nat} {D:DR} {us:List Un} {uv:V} {e0:Env} (hca:cp r11.1=c11a) (hcb:cp r11.2=c11b)
  (hp:B0.get p=D.blk) (hpn:p<B0.n) (hB:B0.get B = .cells [.ptr p 0]) (hBn:B<B0.n) (hmn:D.m<B0.n) (hln:l<B0.n) (hpm:p≠D.m) (hpl:p≠l) (hBm:B≠D.m) (hBl:B≠l) (hml:D.m≠l) (he0:pget ⟨.i0, .i0, .i2⟩ e0 = .ptr B 0)
  (hX:B0.get X = .cells [uv]) (hXn:X<B0.n) (hXm:X≠D.m) (hXl:X≠l) (hnu:nu=us.length) (hnb:us.length<1000000) (huv:us=[] ∨ ∃ ub,uv = .slice ub 0 nu 0 3∧B0.get ub = .cells (encU us)∧ub<B0.n∧ub≠D.m∧ub≠l) :
  ∀ (i:Nat) (G:Heap) (es:List (Nat × Tx)),i≤nu→Rd B0 G D.m l es (.loop 0 0 e0 [⟨.i0, .i5, .i6⟩,⟨.i0, .i5, .i7⟩] r11.1 r11.2) →
  ∃ G',Rd B0 G' D.m l (restI us i es) (.loop 0 0 e0 [⟨.i0, .i5, .i6⟩,⟨.i0, .i5, .i7⟩] r11.1 r11.2) ∧ ∀ (d:Nat) (kx:Nat→KE) (rr:Nat) (e:Env) (j:Nat),i<rr→j=(i+18446744073709551615) % 18446744073709551616→pget ⟨.i0, .i0, .i0⟩ e = .yld l→pget ⟨.i0, .i0, .i1⟩ e = .ptr X 0→pget ⟨.i0, .i0, .i3⟩ e = .int 3 j →
   ∀ x:R,(∀ e',kx 1 e' G'=x) →
   evL c44l0 fuel (evP cp t fuel (d+1)) kx rr e G=x:=by
 intro i
 induction i with
 | zero=>
  intro G es hi hR
  refine ⟨G,hR,fun d kx rr e j hrr hj h0 h1 h3 x hT => ?_⟩
  obtain ⟨rr,rfl⟩:∃ q,rr=q+1:=⟨rr-1,by omega⟩
  have hj':j=18446744073709551615:=by omega
  subst hj'
  have e1:(evCF (.ge 9223372036854775808 18446744073709551616) 18446744073709551615 0=true)=False:=by
   rw [cf_ge]
   exact propext ⟨fun h=>by omega,False.elim⟩
  rw [evL_succ]
  simp only [go_sem,↓op_app,reduceCtorEq,Nat.reduceAdd,Nat.reduceSub,Nat.reduceMul,Nat.reduceEqDiff,Nat.reduceLT,Nat.reduceDiv,Nat.reduceMod,Nat.reduceLeDiff,↓reduceIte,c44l0,h0,h1,h3,e1]
  exact hT _
 | succ i ih=>
  intro G es hi hR
  have hilt:i<us.length:=by omega
  obtain ⟨u,hu1⟩:∃ u,us[i]? = some u:=⟨_,List.getElem?_eq_getElem hilt⟩
  obtain ⟨a0,a1,a2,r,a3⟩:=encU_at hu1
  have hel:=encU_length us
  obtain ⟨ub,rfl,hub,hubn,hubm,hubl⟩:∃ ub,uv = .slice ub 0 nu 0 3∧B0.get ub = .cells (encU us)∧ub<B0.n∧ub≠D.m∧ub≠l:=by
   rcases huv with h | h
   ·rw [h] at hilt;simp at hilt
   ·exact h
  obtain ⟨G1,hR1,hy⟩:=yld_round (cp:=cp) (t:=t) (fuel:=fuel) (i:=i) (u:=u) hca hcb hR hp hpn hB hBn hmn hln hpm hpl hBm hBl hml he0
  obtain ⟨G',hR',hG'⟩:=ih G1 (rest1 es u) (by omega) hR1
  have hXG:G.get X = .cells [.slice ub 0 nu 0 3]:=((hR.step.same X hXn (fun h=>h.elim hXm hXl)).1).trans hX
  have hUG:G.get ub = .cells (encU us):=((hR.step.same ub hubn (fun h=>h.elim hubm hubl)).1).trans hub
  refine ⟨G',by simpa only [restI,hu1] using hR',fun d kx rr e j hrr hj h0 h1 h3 x hT => ?_⟩
  obtain ⟨rr,rfl⟩:∃ q,rr=q+1:=⟨rr-1,by omega⟩
  have hj':j=i:=by omega
  subst hj'
  have hw:=hR.step.wf
  have n1:nn j:=by unfold nn;omega
  have n0:nn 0:=by unfold nn;omega
  have e0:(0:Nat)≤j:=Nat.zero_le _
  have e2:j<9223372036854775808:=by omega
  have e3:j<nu:=by omega
  have e4:j * 3≤(encU us).length:=by omega
  have e5:3≤((encU us).drop (j * 3)).length:=by rw [List.length_drop];omega
  have e6:((encU us).drop (j * 3)).take 3=[.int 3 u.1,sv u.2.1, .bool u.2.2]:=by rw [a3];rfl
  rw [evL_succ]
  simp only [go_sem,↓op_app,reduceCtorEq,Nat.reduceAdd,Nat.reduceSub,Nat.reduceMul,Nat.reduceEqDiff,Nat.reduceLT,Nat.reduceDiv,Nat.reduceMod,Nat.reduceLeDiff,↓reduceIte,c44l0,h0,h1,h3,n1,n0,e0,e2,e3,hXG,hUG,e4,e5,e6,hy]
  refine hG' d kx rr _ ((j+18446744073709551615) % 18446744073709551616) (by omega) rfl ?_ ?_ ?_ x hT
  ·simp only [go_sem,reduceCtorEq,↓reduceIte,h0]
  ·simp only [go_sem,reduceCtorEq,↓reduceIte,h1]
  ·simp only [go_sem,reduceCtorEq,↓reduceIte]
theorem back_call (T:TCode t) {B0:Heap} {p B X l nu:Nat} {D:DR} {es:List (Nat × Tx)} {us:List Un} {uv:V} {e0:Env} (hca:cp r11.1=c11a) (hcb:cp r11.2=c11b)
  (hw:B0.wf) (hm:B0.get D.m = .map (encM (encS es))) (hl:B0.get l = .loop 0 0 e0 [⟨.i0, .i5, .i6⟩,⟨.i0, .i5, .i7⟩] r11.1 r11.2)
  (hp:B0.get p=D.blk) (hpn:p<B0.n) (hB:B0.get B = .cells [.ptr p 0]) (hBn:B<B0.n) (hmn:D.m<B0.n) (hln:l<B0.n) (hpm:p≠D.m) (hpl:p≠l) (hBm:B≠D.m) (hBl:B≠l) (hml:D.m≠l) (he0:pget ⟨.i0, .i0, .i2⟩ e0 = .ptr B 0)
  (hX:B0.get X = .cells [uv]) (hXn:X<B0.n) (hXm:X≠D.m) (hXl:X≠l) (hnu:nu=us.length) (hnb:us.length<1000000) (hfu:us.length<fuel) (huv:(uv = .nils∧us=[]) ∨ ∃ ub,uv = .slice ub 0 nu 0 3∧B0.get ub = .cells (encU us)∧ub<B0.n∧ub≠D.m∧ub≠l) :
  ∃ G',Rd B0 G' D.m l (restI us nu es) (.loop 0 0 e0 [⟨.i0, .i5, .i6⟩,⟨.i0, .i5, .i7⟩] r11.1 r11.2) ∧ ∀ (d:Nat) (k:K),callP (evP cp t fuel (d+2)) (.func 88 [.ptr X 0]) [.yld l] B0 k=k (.tup []) G':=by
 obtain ⟨G',hR',hL⟩:=back_loop (cp:=cp) (t:=t) (fuel:=fuel) (B0:=B0) hca hcb hp hpn hB hBn hmn hln hpm hpl hBm hBl hml he0 hX hXn hXm hXl hnu hnb (huv.imp (·.2) id) nu B0 es (Nat.le_refl _) ⟨Step.refl hw,hm,hl⟩
 refine ⟨G',hR',fun d k => ?_⟩
 have e3:nu<9223372036854775808:=by omega
 rw [call_entry T.k44 rfl rfl]
 rcases huv with ⟨rfl,rfl⟩ | ⟨ub,rfl,hub,_⟩
 ·have hnu0:nu=0:=hnu
  subst hnu0
  simp only [go_sem,↓op_app,reduceCtorEq,Nat.reduceAdd,Nat.reduceSub,Nat.reduceMul,Nat.reduceEqDiff,Nat.reduceLT,Nat.reduceDiv,Nat.reduceMod,Nat.reduceLeDiff,↓reduceIte,c44,hX]
  refine hL d _ fuel _ 18446744073709551615 (by omega) (by omega) ?_ ?_ ?_ _ (fun e' => ?_)
  ·simp only [go_sem,reduceCtorEq,↓reduceIte]
  ·simp only [go_sem,reduceCtorEq,↓reduceIte]
  ·simp only [go_sem,reduceCtorEq,↓reduceIte]
  ·simp only [go_sem,reduceCtorEq,↓reduceIte]
 ·simp only [go_sem,↓op_app,reduceCtorEq,Nat.reduceAdd,Nat.reduceSub,Nat.reduceMul,Nat.reduceEqDiff,Nat.reduceLT,Nat.reduceDiv,Nat.reduceMod,Nat.reduceLeDiff,↓reduceIte,c44,hX,e3]
  refine hL d _ fuel _ ((nu+18446744073709551615) % 18446744073709551616) (by omega) rfl ?_ ?_ ?_ _ (fun e' => ?_)
  ·simp only [go_sem,reduceCtorEq,↓reduceIte]
  ·simp only [go_sem,reduceCtorEq,↓reduceIte]
  ·simp only [go_sem,reduceCtorEq,↓reduceIte]
  ·simp only [go_sem,reduceCtorEq,↓reduceIte]
end
end Go.Ev
end
section
namespace Go.Ev
theorem rest1_length (es:List (Nat × Tx)) (u:Un):(rest1 es u).length≤es.length+1:=by
 unfold rest1
 split
 ·exact updS_le _ _ _
 ·have:∀ (l:List (Nat × Tx)) a,(del l a).length≤l.length:=by
   intro l a
   induction l with
   | nil=>exact Nat.le_refl _
   | cons p l ih=>
    unfold del
    split
    ·simp
    ·simp only [List.length_cons];omega
  have:=this es u.1
  omega
theorem restI_length (us:List Un):∀ (i:Nat) (es:List (Nat × Tx)),(restI us i es).length≤es.length+i
 | 0,es=>Nat.le_refl _
 | i+1,es=>by
  simp only [restI]
  cases h:us[i]? with
  | none=>have:=restI_length us i es;simp only;omega
  | some u=>
   have h1:=restI_length us i (rest1 es u)
   have h2:=rest1_length es u
   simp only
   omega
theorem lastN_length (es:List (Nat × Tx)) (us:List Un) (bs:List Bool):∀ i,(lastN es us bs i).length≤i
 | 0=>Nat.le_refl _
 | i+1=>by
  have ih:=lastN_length es us bs i
  simp only [lastN]
  split
  ·split
   ·rename_i u _
    have:=updS_le (lastN es us bs i) u.1 (writtenL es us i u.1)
    omega
   ·omega
  ·omega
def AD.wakeEs (A:AD) (bs:List Bool):List (Nat × Tx):=laid (restI A.us A.us.length A.es) (lastN A.es A.us bs A.us.length)
def AD.wake (A:AD) (bs:List Bool):AD:={ A with es:=A.wakeEs bs,us:=[],off:=false }
section
variable {cp:RC→CodeE} {t:Nat→Option FnE} {fuel:Nat} {H:Heap}
theorem evC_rangeF_cps {ph:Phi} {e:Env} {kn:KE} {kx:Nat→KE} {g:Arg} {ps:List Slot} {aa bo:RC} {f:Nat} {caps:List V} {x:R} (hw:H.wf) (hg:pgetA g e = .func f caps) (hf:f % 2=0)
  (h:∃ (G:Heap) (e':Env) (ps':List Slot) (as' bo':RC) (v:V),(∀ k:K,callP ph (.func f caps) [.yld (H.n+1)] ((H.new .mark).new (.loop 0 0 e ps aa bo)) k=k v G)∧G.get (H.n+1) = .loop 0 0 e' ps' as' bo'∧G.wf∧H.n+1<G.n∧kn e (G.put (H.n+1) (.loop 3 0 e' ps' as' bo'))=x) :
  evC (.rangeF g ps aa bo) fuel ph e H kn kx=x:=by
 obtain ⟨G,e',ps',as',bo',v,h1,h2,h3,h4,h5⟩:=h
 exact (evC_rangeF hw hg hf h1 h2 h3 h4).trans h5
set_option maxHeartbeats 2000000 in
theorem wake_call (T:TCode t) (hcm:t 25=some (.nat nCopyM)) (hca:cp r11.1=c11a) (hcb:cp r11.2=c11b)
  {p:Nat} {A:AD} {O:Nat→Prop} {kv:V} {bs:List Bool} (hD:Disk H p A O) (ho:A.off=true) (hus:A.us.length<1000000) (hes:A.es.length<1000000) (hkv:KpAt H kv bs) (hkb:bs.length<9223372036854775808) (hfu:1000000<fuel)
  (d:Nat) (k:K) (x:R) (hx:∀ H' O',Step H O H' O'→Disk H' p (A.wake bs) O'→k (.tup []) H'=x):callP (evP cp t fuel (d+3)) (.func 22 []) [.ptr p 0,kv] H k=x:=by
 obtain ⟨D,h,h1,h2,h3,h4,rfl⟩:=hD
 have hw:=h.wf
 have f1:Fresh H (H.new (.cells [.ptr p 0])):=Fresh.new hw
 generalize hG1:H.new (.cells [.ptr p 0])=G1 at f1
 have g1n:G1.n=H.n+1:=by rw [← hG1,Heap.n_new]
 have g1w:=f1.wf
 have g1B:G1.get H.n = .cells [.ptr p 0]:=by rw [← hG1,Heap.get_new hw,if_pos rfl]
 have hst:∀ {d:Nat} {k:K},callP (evP cp t fuel (d+1)) (.func 44 []) [.ptr p 0] G1 k=k (.int 3 6) G1:=fun {d k}=>by
  have hD1:=h.freshen f1
  have TD:TDisk t:=⟨T.k10,T.k22,T.k76,T.k34,T.k63⟩
  rw [state_call TD hD1.wf hD1.hp hD1.hg,h4,ho]
  rfl
 have f2:Fresh H (G1.new (.map [])):=f1.trans (Fresh.new g1w)
 generalize hG2:G1.new (.map [])=G2 at f2
 have g2n:G2.n=H.n+1+1:=by rw [← hG2,Heap.n_new,g1n]
 have g2w:=f2.wf
 have g2B:G2.get H.n = .cells [.ptr p 0]:=by rw [← hG2,Heap.get_new g1w,if_neg (by omega)];exact g1B
 have g2M:G2.get (H.n+1) = .map (encM (encS (lastN A.es A.us bs 0))):=by rw [← hG2,Heap.get_new g1w,if_pos g1n.symm];rfl
 have g2p:G2.get p=D.blk:=(f2.same p h.hp).trans h.hg
 obtain ⟨G3,f3,g3B,g3Bn,g3M,g3Mn,hL⟩:=last_loop (cp:=cp) (fuel:=fuel) (B:=H.n) (M:=H.n+1) (nu:=A.us.length) (uv:=D.u) T h rfl hus rfl hkv hkb (Nat.le_refl _) (by omega) (by omega) (by omega) A.us.length 0 G2 (by omega) f2 g2B (by omega) g2M (by omega)
 have g3w:=f3.wf
 have g3p:G3.get p=D.blk:=(f3.same p h.hp).trans h.hg
 have f4:Fresh H (G3.new (.cells [D.u])):=f3.trans (Fresh.new g3w)
 generalize hG4:G3.new (.cells [D.u])=G4 at f4
 have g4n:G4.n=G3.n+1:=by rw [← hG4,Heap.n_new]
 have g4w:=f4.wf
 have g4X:G4.get G3.n = .cells [D.u]:=by rw [← hG4,Heap.get_new g3w,if_pos rfl]
 have g4o:∀ b,b<G3.n→G4.get b=G3.get b:=fun b hb=>by rw [← hG4,Heap.get_new g3w,if_neg (by omega)]
 have hun:(D.u = .nils∧A.us=[]) ∨ ∃ ub,D.u = .slice ub 0 A.us.length 0 3∧H.get ub = .cells (encU A.us)∧ub<H.n∧ub≠p∧ub≠D.m:=by
  rcases h.undo with ⟨hu,he⟩ | ⟨ub,n,hu,hul,hn0,hub,hubn,hup,hum⟩
  ·left
   refine ⟨hu, ?_⟩
   have:=congrArg List.length he
   rw [encU_length] at this
   simp only [List.length_nil] at this
   exact List.eq_nil_of_length_eq_zero (by omega)
  ·rw [encU_length] at hul
   obtain rfl:n=A.us.length:=by omega
   exact Or.inr ⟨ub,hu,hub,hubn,hup,hum⟩
 have hlen:(∀ {id:Nat} {f:Nat→R},True):=fun {_ _}=>trivial
 have key:∀ (e0:Env) (kn:KE) (x:R),pget ⟨.i0, .i0, .i2⟩ e0 = .ptr H.n 0→(∀ G6:Heap,G6.wf→G4.n+1<G6.n→(∀ b,b<G4.n→b≠D.m→G6.get b=G4.get b)→G6.get D.m = .map (encM (encS (restI A.us A.us.length A.es)))→(∀ lo,lo≤H.wlo→lo≤H.n→lo≤D.m→lo≤G6.wlo)→kn e0 G6=x) → ∀ d:Nat,
   ∀ (kx:Nat→KE) (g:Arg),pgetA g e0 = .func 88 [.ptr G3.n 0]→evC (.rangeF g [⟨.i0, .i5, .i6⟩,⟨.i0, .i5, .i7⟩] r11.1 r11.2) fuel (evP cp t fuel (d+2)) e0 G4 kn kx=x:=fun e0 kn x he0 hT d kx g hg0=>by
  refine evC_rangeF_cps g4w hg0 rfl ?_
  have hmw:(G4.new .mark).wf:=by rw [Heap.wf_new];exact g4w
  have hmn:(G4.new .mark).n=G4.n+1:=Heap.n_new
  have hB0:∀ b,b<G4.n→((G4.new .mark).new (.loop 0 0 e0 [⟨.i0, .i5, .i6⟩,⟨.i0, .i5, .i7⟩] r11.1 r11.2)).get b=G4.get b:=fun b hb=>by
   rw [Heap.get_new hmw,if_neg (by omega),Heap.get_new g4w,if_neg (by omega)]
  have hB0n:((G4.new .mark).new (.loop 0 0 e0 [⟨.i0, .i5, .i6⟩,⟨.i0, .i5, .i7⟩] r11.1 r11.2)).n=G4.n+1+1:=by rw [Heap.n_new,hmn]
  have hold:∀ b,b<H.n→((G4.new .mark).new (.loop 0 0 e0 [⟨.i0, .i5, .i6⟩,⟨.i0, .i5, .i7⟩] r11.1 r11.2)).get b=H.get b:=fun b hb=>(hB0 b (by omega)).trans (f4.same b hb)
  have hpl:=h.hp
  have hml:=h.hmn
  obtain ⟨G',hR,hcall⟩:=back_call (cp:=cp) (fuel:=fuel) (B0:=(G4.new .mark).new (.loop 0 0 e0 [⟨.i0, .i5, .i6⟩,⟨.i0, .i5, .i7⟩] r11.1 r11.2)) (p:=p) (B:=H.n) (X:=G3.n) (l:=G4.n+1) (nu:=A.us.length) (D:=D) (es:=A.es) (us:=A.us) (uv:=D.u) (e0:=e0) T hca hcb
   (by rw [Heap.wf_new];exact hmw) ((hold _ hml).trans h.hm) (by rw [Heap.get_new hmw,if_pos hmn.symm]) ((hold p hpl).trans h.hg) (by omega) ((hB0 _ (by omega)).trans ((g4o _ g3Bn).trans g3B)) (by omega) (by omega) (by omega) h.hmp.symm (by omega) (by omega) (by omega) (by omega) he0
   ((hB0 _ (by omega)).trans g4X) (by omega) (by omega) (by omega) rfl hus (by omega) (hun.imp id fun ⟨ub,q1,q2,q3,q4,q5⟩=>⟨ub,q1,(hold ub q3).trans q2,by omega,q5,by omega⟩)
  have hn':=hR.step.n
  have hG'w:=hR.step.wf
  have hlt':G4.n+1<G'.n:=by omega
  refine ⟨G',e0,_,_,_,_,fun k=>hcall d k,hR.lp,hG'w,hlt',hT _ (by rw [Heap.wf_put];exact hG'w) (by rw [Heap.n_put];exact hlt') (fun b hb hbm => ?_) ?_ (fun lo q1 q2 q3 => ?_)⟩
  ·rw [Heap.get_put hG'w hlt',if_neg (by omega),(hR.step.same b (by omega) (fun h=>h.elim hbm (fun h=>by omega))).1]
   exact hB0 b hb
  ·rw [Heap.get_put hG'w hlt',if_neg (by omega)]
   exact hR.map
  ·refine Heap.lo_put ((hR.step.lo lo (Heap.lo_new (Heap.lo_new (f4.lo lo q1 q2))) (by have:=f4.n;omega) (fun b hb => ?_)).1) (by have:=f4.n;omega)
   rcases hb with rfl | rfl
   ·exact q3
   ·have:=f4.n;omega
 have hvc:∀ {id:Nat} {f:List V→R},vCells id D.u f=f [D.u]:=fun {id f}=>by
  rcases hun with ⟨hu,_⟩ | ⟨ub,hu,_⟩ <;> rw [hu] <;> rfl
 have hone:∀ {id:Nat} {k:R},isOne id D.u k=k:=fun {id k}=>by
  rcases hun with ⟨hu,_⟩ | ⟨ub,hu,_⟩ <;> rw [hu] <;> rfl
 have hsn:∀ {id:Nat} {f:Nat→R},vSliceN id D.u (fun _ _ len _ _=>f len) (f 0)=f A.us.length:=fun {id f}=>by
  rcases hun with ⟨hu,he⟩ | ⟨ub,hu,_⟩
  ·rw [hu,he];rfl
  ·rw [hu];rfl
 have e9:A.us.length<9223372036854775808:=by omega
 have hgg:G2.get p=D.blk:=g2p
 simp only [DR.blk] at g2p g3p
 rw [call_entry T.k11 rfl rfl]
 simp only [go_sem,↓op_app,reduceCtorEq,Nat.reduceAdd,Nat.reduceSub,Nat.reduceMul,Nat.reduceEqDiff,Nat.reduceLT,Nat.reduceDiv,Nat.reduceMod,Nat.reduceLeDiff,↓reduceIte,c11,hw,hG1,g1B,g1w,hst,hG2,g2B,g2w,g2p,↓hsn,e9]
 refine hL (d+1) _ fuel _ (by omega) ?_ ?_ ?_ ?_ ?_ ?_ _ (fun e1 h2' h4' => ?_)
 ·simp only [go_sem,reduceCtorEq,↓reduceIte]
 ·simp only [go_sem,reduceCtorEq,↓reduceIte]
 ·simp only [go_sem,↓op_app,reduceCtorEq,Nat.reduceAdd,Nat.reduceSub,Nat.reduceMul,Nat.reduceEqDiff,Nat.reduceLT,Nat.reduceDiv,Nat.reduceMod,Nat.reduceLeDiff,↓reduceIte,g1n]
 ·simp only [go_sem,reduceCtorEq,↓reduceIte]
 ·simp only [go_sem,reduceCtorEq,↓reduceIte]
 ·simp only [go_sem,reduceCtorEq,↓reduceIte]
 have hbk:∀ {d:Nat} {k:K},callP (evP cp t fuel (d+1)) (.func 48 []) [D.u] G3 k=k (.func 88 [.ptr G3.n 0]) G4:=fun {d k}=>by
  rw [call_entry T.k24 rfl rfl]
  simp only [go_sem,↓op_app,reduceCtorEq,Nat.reduceAdd,Nat.reduceSub,Nat.reduceMul,Nat.reduceEqDiff,Nat.reduceLT,Nat.reduceDiv,Nat.reduceMod,Nat.reduceLeDiff,↓reduceIte,c24,g3w,hvc,hone,hG4]
 simp only [go_sem,↓op_app,reduceCtorEq,Nat.reduceAdd,Nat.reduceSub,Nat.reduceMul,Nat.reduceEqDiff,Nat.reduceLT,Nat.reduceDiv,Nat.reduceMod,Nat.reduceLeDiff,↓reduceIte,h2',h4',g3B,g3p,g3w,hbk]
 refine key _ _ _ ?_ (fun G6 g6w g6n g6o g6m g6lo => ?_) d _ _ ?_
 ·simp only [go_sem,reduceCtorEq,↓reduceIte,h2']
 rotate_left
 ·simp only [go_sem,reduceCtorEq,↓reduceIte]
 have hBm:H.n≠D.m:=by have:=h.hmn;omega
 have hpn:=h.hp
 have hmn:=h.hmn
 have g6B:G6.get H.n = .cells [.ptr p 0]:=(g6o _ (by omega) hBm).trans ((g4o _ g3Bn).trans g3B)
 have g6M:G6.get (H.n+1) = .map (encM (encS (lastN A.es A.us bs A.us.length))):=(g6o _ (by omega) (by omega)).trans ((g4o _ g3Mn).trans g3M)
 have g6p:G6.get p=D.blk:=(g6o p (by omega) h.hmp.symm).trans ((f4.same p hpn).trans h.hg)
 have hm6:D.m<G6.n:=by omega
 generalize hG7:G6.put D.m (.map (encM (encS (A.wakeEs bs))))=G7
 have hcp:∀ {d:Nat} {k:K},callP (evP cp t fuel (d+1)) (.func 50 []) [.map D.m, .map (H.n+1)] G6 k=k (.tup []) G7:=fun {d k}=>by
  rw [call_nat hcm rfl rfl]
  refine (nCopyM_map g6w (by omega) g6m hm6 g6M).trans ?_
  rw [← hG7]
  rfl
 have g7w:G7.wf:=by rw [← hG7,Heap.wf_put];exact g6w
 have g7n:G7.n=G6.n:=by rw [← hG7,Heap.n_put]
 have g7o:∀ b,b≠D.m→G7.get b=G6.get b:=fun b hb=>by rw [← hG7,Heap.get_put g6w hm6,if_neg hb]
 have g7m:G7.get D.m = .map (encM (encS (A.wakeEs bs))):=by rw [← hG7,Heap.get_put g6w hm6,if_pos rfl]
 have g7B:=(g7o _ hBm).trans g6B
 have g7p:=(g7o _ h.hmp.symm).trans g6p
 have hp7:p<G7.n:=by omega
 have hB7:H.n<G7.n:=by omega
 have hxx:=hx (G7.put p { D with u := .nils,off:=false }.blk) ({ D with u := .nils,off:=false }.owns p) ⟨by rw [Heap.wf_put];exact g7w,by rw [Heap.n_put];omega,fun b hb hbo=>⟨?_, ?_⟩,fun lo q1 q2 q3=>⟨?_, ?_⟩⟩ ⟨{ D with u := .nils,off:=false },⟨by rw [Heap.wf_put];exact g7w,by rw [Heap.n_put];omega,by rw [Heap.get_put g7w hp7,if_pos rfl],by rw [Heap.get_put g7w hp7,if_neg h.hmp];exact g7m,by rw [Heap.n_put];show D.m<_;omega,h.hmp,Or.inl ⟨rfl,rfl⟩,h.hl,h.hr,h.hf, ?_⟩,h1,h2,h3,rfl,rfl⟩
 rotate_left
 ·have e1:b≠p:=fun e=>hbo (Or.inl e)
  have e2:b≠D.m:=fun e=>hbo (Or.inr (Or.inl e))
  rw [Heap.get_put g7w hp7,if_neg e1,g7o b e2,g6o b (by omega) e2]
  exact f4.same b hb
 ·rintro (e | e | ⟨o,m,c,s,e⟩)
  ·exact hbo (Or.inl e)
  ·exact hbo (Or.inr (Or.inl e))
  ·cases e
 ·refine Heap.lo_put ?_ (q3 p (Or.inl rfl))
  rw [← hG7]
  exact Heap.lo_put (g6lo lo q1 q2 (q3 _ (Or.inr (Or.inl rfl)))) (q3 _ (Or.inr (Or.inl rfl)))
 ·rintro b (e | e | ⟨o,m,c,s,e⟩)
  ·exact q3 b (Or.inl e)
  ·exact q3 b (Or.inr (Or.inl e))
  ·cases e
 ·have r1:=restI_length A.us A.us.length A.es
  have r2:=lastN_length A.es A.us bs A.us.length
  have r3:=laid_length (lastN A.es A.us bs A.us.length) (restI A.us A.us.length A.es)
  show (A.wakeEs bs).length<_
  unfold AD.wakeEs
  omega
 have g6p':=g6p
 simp only [DR.blk] at g6p'
 simp only [go_sem,↓op_app,reduceCtorEq,Nat.reduceAdd,Nat.reduceSub,Nat.reduceMul,Nat.reduceEqDiff,Nat.reduceLT,Nat.reduceDiv,Nat.reduceMod,Nat.reduceLeDiff,↓reduceIte,h2',h4',g6B,g6p',g6w,hcp]
 simp only [DR.blk] at g7p hxx
 simp only [go_sem,↓op_app,reduceCtorEq,Nat.reduceAdd,Nat.reduceSub,Nat.reduceMul,Nat.reduceEqDiff,Nat.reduceLT,Nat.reduceDiv,Nat.reduceMod,Nat.reduceLeDiff,↓reduceIte,evC_freg,evFreg_1,h2',h4',g7B,g7w]
 refine (evFreg_2 (b:=H.n) (o:=0) (v := .ptr p 0) (by simp only [go_sem,reduceCtorEq,↓reduceIte,h2']) hB7 (fun k=>by simp only [go_sem,↓op_app,reduceCtorEq,Nat.reduceAdd,Nat.reduceSub,Nat.reduceMul,Nat.reduceEqDiff,Nat.reduceLT,Nat.reduceDiv,Nat.reduceMod,Nat.reduceLeDiff,↓reduceIte,h2',g7B]) (fun k=>apartN_nil)).trans ?_
 simp only [go_sem,↓op_app,reduceCtorEq,Nat.reduceAdd,Nat.reduceSub,Nat.reduceMul,Nat.reduceEqDiff,Nat.reduceLT,Nat.reduceDiv,Nat.reduceMod,Nat.reduceLeDiff,↓reduceIte,evFreg_0]
 refine Eq.trans (evFreg_3 (b:=p) (o:=1) (v := .tup []) (H':=G7.put p (.cells [.map D.m, .nils, .int 3 D.len, .int 3 D.room, .int 3 D.fuse, .bool D.off])) ?_ (fun k => ?_) (fun k => ?_)) ?_
 ·simp only [go_sem,reduceCtorEq,↓reduceIte]
 ·simp only [go_sem,↓op_app,reduceCtorEq,Nat.reduceAdd,Nat.reduceSub,Nat.reduceMul,Nat.reduceEqDiff,Nat.reduceLT,Nat.reduceDiv,Nat.reduceMod,Nat.reduceLeDiff,↓reduceIte,g7p,g7w,hp7]
 ·rw [apartN_cons,if_neg (by decide),if_neg (by omega),apartN_nil]
 simp only [go_sem,↓op_app,reduceCtorEq,Nat.reduceAdd,Nat.reduceSub,Nat.reduceMul,Nat.reduceEqDiff,Nat.reduceLT,Nat.reduceDiv,Nat.reduceMod,Nat.reduceLeDiff,↓reduceIte,evFreg_0,evFreg_nil,g7w,hp7]
 exact hxx
end
end Go.Ev
end
section
namespace Go.Ev
def hist:List (Nat × Tx)→List Wr→List Un
 | _,[] => []
 | es,w :: ws=>(w.1,(find es w.1).getD (0,0),(find es w.1).isSome) :: hist (updS es w.1 w.2) ws
theorem hist_snoc:∀ {ws:List Wr} {es:List (Nat × Tx)} {w:Wr},hist es (ws ++ [w])=hist es ws ++ [(w.1,(find (laid es ws) w.1).getD (0,0),(find (laid es ws) w.1).isSome)]
 | [],es,w=>rfl
 | v :: ws,es,w=>by
  show _ :: hist (updS es v.1 v.2) (ws ++ [w])=_
  rw [hist_snoc]
  rfl
theorem hist_length:∀ (ws:List Wr) (es:List (Nat × Tx)),(hist es ws).length=ws.length
 | [],es=>rfl
 | w :: ws,es=>by simp only [hist,List.length_cons,hist_length ws]
structure Hist (A:AD) (es0:List (Nat × Tx)) (pre:List Wr):Prop where
 es:A.es=laid es0 pre
 us:A.us=hist es0 pre
structure Dark (A B:AD) (es0:List (Nat × Tx)) (pre:List Wr):Prop where
 off:B.off=true
 fuse:B.fuse=0
 len:B.len=A.len
 room:B.room=A.room
 hist:Hist B es0 pre
theorem wrs_crash:∀ {ws:List Wr} {A:AD} {es0:List (Nat × Tx)} {pre:List Wr},A.off=false→Hist A es0 pre→(∀ w ∈ ws,w.2.1=32) →
  ((A.wrs ws).2=0∧Hist (A.wrs ws).1 es0 (pre ++ ws)∧(A.wrs ws).1.off=false∧(A.wrs ws).1.len=A.len∧(A.wrs ws).1.room=A.room)∨((A.wrs ws).2=6 ∧ ∃ ws1 ws2,ws=ws1 ++ ws2∧Dark A (A.wrs ws).1 es0 (pre ++ ws1))
 | [],A,es0,pre,ho,h,_=>Or.inl ⟨rfl,by rw [List.append_nil];exact h,ho,rfl,rfl⟩
 | w :: ws,A,es0,pre,ho,h,hl=>by
  by_cases hf:A.fuse=1
  ·have hw:A.write w.1 w.2.2=(A.dark,6):=by simp only [AD.write,if_pos hf]
   right
   simp only [AD.wrs,hw]
   rw [if_neg (by decide)]
   exact ⟨rfl,[],w :: ws,rfl,⟨rfl,rfl,rfl,rfl,by rw [List.append_nil];exact ⟨h.es,h.us⟩⟩⟩
  ·have hw:A.write w.1 w.2.2=({ A with fuse:=A.fuse-1,us:=A.us ++ [(w.1,(find A.es w.1).getD (0,0),(find A.es w.1).isSome)],es:=updS A.es w.1 (32,w.2.2) },0):=by simp only [AD.write,if_neg hf]
   have h32:(32,w.2.2)=w.2:=by rw [← hl w (List.mem_cons_self ..)]
   rw [h32] at hw
   simp only [AD.wrs,hw,if_true]
   have hh:Hist { A with fuse:=A.fuse-1,us:=A.us ++ [(w.1,(find A.es w.1).getD (0,0),(find A.es w.1).isSome)],es:=updS A.es w.1 w.2 } es0 (pre ++ [w]):=by
    refine ⟨?_, ?_⟩
    ·show updS A.es w.1 w.2=_
     rw [laid_append,h.es];rfl
    ·show A.us ++ _=_
     rw [hist_snoc,h.us,h.es]
   rcases wrs_crash (ws:=ws) (A:={ A with fuse:=A.fuse-1,us:=A.us ++ [(w.1,(find A.es w.1).getD (0,0),(find A.es w.1).isSome)],es:=updS A.es w.1 w.2 }) ho hh (fun v hv=>hl v (List.mem_cons_of_mem _ hv)) with ⟨q1,q2,q3,q4,q5⟩ | ⟨q1,ws1,ws2,q2,q3,q4,q5,q6,q7⟩
   ·left
    rw [List.append_assoc] at q2
    exact ⟨q1,q2,q3,q4,q5⟩
   ·right
    rw [List.append_assoc] at q7
    exact ⟨q1,w :: ws1,ws2,by rw [q2];rfl,⟨q3,q4,q5,q6,q7⟩⟩
theorem puts_crash {ws:List Wr} {A:AD} (ho:A.off=false) (hu:A.us=[]) (hl:∀ w ∈ ws,w.2.1=32) :
  ((A.puts ws).2=0∧(A.puts ws).1.us=[]∧Went A (A.puts ws).1 (laid A.es ws))∨((A.puts ws).2=6 ∧ ∃ ws1 ws2,ws=ws1 ++ ws2∧Dark A (A.puts ws).1 A.es ws1):=by
 rcases wrs_crash (ws:=ws) (A:=A) (es0:=A.es) (pre:=[]) ho ⟨rfl,hu⟩ hl with ⟨q1,q2,q3,q4,q5⟩ | ⟨q1,ws1,ws2,q2,q3⟩
 ·rw [List.nil_append] at q2
  unfold AD.puts
  rw [if_pos q1]
  by_cases hf:(A.wrs ws).1.fuse=1
  ·right
   simp only [AD.flush,if_pos hf]
   exact ⟨trivial,ws,[],by simp,⟨rfl,rfl,q4,q5,⟨q2.es,q2.us⟩⟩⟩
  ·left
   simp only [AD.flush,if_neg hf]
   exact ⟨trivial,trivial,⟨q4,q5,by rw [ho];exact q3,q2.es⟩⟩
 ·right
  unfold AD.puts
  rw [if_neg (by omega)]
  exact ⟨q1,ws1,ws2,q2,q3⟩
theorem runs_crash:∀ {l:List (List Wr)} {A:AD},A.off=false→A.us=[]→(∀ ws ∈ l,∀ w ∈ ws,w.2.1=32) →
  ((A.runs l).2=0∧(A.runs l).1.us=[]∧Went A (A.runs l).1 (laid A.es l.flatten))∨((A.runs l).2=6 ∧ ∃ l1 ws l2 ws1 ws2,l=l1 ++ ws :: l2∧ws=ws1 ++ ws2∧Dark A (A.runs l).1 (laid A.es l1.flatten) ws1)
 | [],A,ho,hu,_=>Or.inl ⟨rfl,hu,⟨rfl,rfl,rfl,rfl⟩⟩
 | ws :: l,A,ho,hu,hl=>by
  simp only [AD.runs]
  rcases puts_crash (ws:=ws) ho hu (hl ws (List.mem_cons_self ..)) with ⟨q1,q2,q3⟩ | ⟨q1,ws1,ws2,q2,q3⟩
  ·rw [if_pos q1]
   obtain ⟨g1,g2,g3,g4⟩:=q3
   rcases runs_crash (l:=l) (A:=(A.puts ws).1) (g3.trans ho) q2 (fun us hus=>hl us (List.mem_cons_of_mem _ hus)) with ⟨r1,r2,r3,r4,r5,r6⟩ | ⟨r1,l1,vs,l2,ws1,ws2,r2,r3,r4,r5,r6,r7,r8⟩
   ·left
    exact ⟨r1,r2,⟨r3.trans g1,r4.trans g2,r5.trans g3,by rw [r6,g4,List.flatten_cons,laid_append]⟩⟩
   ·right
    refine ⟨r1,ws :: l1,vs,l2,ws1,ws2,by rw [r2];rfl,r3,⟨r4,r5,r6.trans g1,r7.trans g2, ?_⟩⟩
    rw [List.flatten_cons,laid_append,← g4]
    exact r8
  ·right
   rw [if_neg (by omega)]
   exact ⟨q1,[],ws,l,ws1,ws2,rfl,q2,q3⟩
def oldU (es:List (Nat × Tx)) (w:Wr):Un:=(w.1,(find es w.1).getD (0,0),(find es w.1).isSome)
theorem hist_nodup:∀ {ws:List Wr} {es es0:List (Nat × Tx)},(ws.map (·.1)).Nodup→(∀ w ∈ ws,find es w.1=find es0 w.1)→hist es ws=ws.map (oldU es0)
 | [],_,_,_,_=>rfl
 | w :: ws,es,es0,hn,h=>by
  rw [List.map_cons,List.nodup_cons] at hn
  have h0:=h w (List.mem_cons_self ..)
  show _ :: hist (updS es w.1 w.2) ws=_
  rw [hist_nodup hn.2 (es0:=es0) (fun v hv=>by
   rw [find_updS,if_neg (fun e=>hn.1 (List.mem_map.2 ⟨v,hv,e⟩))]
   exact h v (List.mem_cons_of_mem _ hv)),h0]
  rfl
theorem find_rest1 {len:Nat} {es es0:List (Nat × Tx)} {w:Wr} (hk:EsOK len es) (k:Nat):find (rest1 es (oldU es0 w)) k=if k=w.1 then find es0 k else find es k:=by
 unfold rest1 oldU
 cases hs:find es0 w.1 with
 | some v=>
  simp only [Option.isSome_some,Option.getD_some,if_true]
  rw [find_updS]
  split
  ·rename_i e;rw [e,hs]
  ·rfl
 | none=>
  simp only [Option.isSome_none,Bool.false_eq_true,if_false]
  rw [find_del hk.nodup]
  split
  ·rename_i e;rw [e,hs]
  ·rfl
theorem rest1_ok {len:Nat} {es:List (Nat × Tx)} {u:Un} (hk:EsOK len es) (hu:u.1<len):EsOK len (rest1 es u):=by
 unfold rest1
 split
 ·exact hk.updS hu
 ·exact hk.del _
theorem restI_ok {len:Nat} {ws:List Wr} {es0:List (Nat × Tx)} (hw:∀ w ∈ ws,w.1<len):∀ (i:Nat) (es:List (Nat × Tx)),i≤ws.length→EsOK len es→EsOK len (restI (ws.map (oldU es0)) i es) ∧ ∀ k,find (restI (ws.map (oldU es0)) i es) k=if k ∈ (ws.take i).map (·.1) then find es0 k else find es k
 | 0,es,_,hk=>⟨hk,fun k=>by simp [restI]⟩
 | i+1,es,hi,hk=>by
  have hil:i<ws.length:=by omega
  have hg:(ws.map (oldU es0))[i]? = some (oldU es0 ws[i]):=by rw [List.getElem?_map,List.getElem?_eq_getElem hil];rfl
  have hmem:ws[i] ∈ ws:=List.getElem_mem hil
  obtain ⟨h1,h2⟩:=restI_ok hw (es0:=es0) i (rest1 es (oldU es0 ws[i])) (by omega) (rest1_ok hk (hw _ hmem))
  simp only [restI,hg]
  refine ⟨h1,fun k => ?_⟩
  have hiff:k ∈ (ws.take (i+1)).map (·.1)↔k ∈ (ws.take i).map (·.1)∨k=ws[i].1:=by
   rw [List.take_succ_eq_append_getElem hil,List.map_append,List.mem_append]
   simp
  rw [h2,find_rest1 hk]
  by_cases hk1:k ∈ (ws.take i).map (·.1)
  ·rw [if_pos hk1,if_pos (hiff.2 (Or.inl hk1))]
  ·rw [if_neg hk1]
   by_cases hk2:k=ws[i].1
   ·rw [if_pos hk2,if_pos (hiff.2 (Or.inr hk2))]
   ·rw [if_neg hk2,if_neg (fun h=>(hiff.1 h).elim hk1 hk2)]
theorem mem_updS:∀ {l:List (Nat × Tx)} {a:Nat} {v:Tx} {e:Nat × Tx},e ∈ updS l a v→e ∈ l∨e=(a,v)
 | [],a,v,e,h=>by simp [updS] at h;exact Or.inr h
 | p :: l,a,v,e,h=>by
  unfold updS at h
  split at h
  ·rename_i hp
   rcases List.mem_cons.1 h with rfl | h
   ·exact Or.inr (by rw [hp])
   ·exact Or.inl (List.mem_cons_of_mem _ h)
  ·rcases List.mem_cons.1 h with rfl | h
   ·exact Or.inl (List.mem_cons_self ..)
   ·exact (mem_updS h).imp (List.mem_cons_of_mem _) id
theorem lastN_ok {len:Nat} {ws:List Wr} {es0 es:List (Nat × Tx)} {bs:List Bool} (hn:(ws.map (·.1)).Nodup) (hw:∀ w ∈ ws,w.1<len) (he:∀ w ∈ ws,find es w.1=some w.2):∀ i,EsOK len (lastN es (ws.map (oldU es0)) bs i) ∧ ∀ e ∈ lastN es (ws.map (oldU es0)) bs i,e ∈ ws
 | 0=>⟨EsOK.nil,fun e h=>by cases h⟩
 | i+1=>by
  obtain ⟨h1,h2⟩:=lastN_ok (es0:=es0) (bs:=bs) hn hw he i
  simp only [lastN]
  split
  ·rw [List.getElem?_map]
   cases hi:ws[i]? with
   | none=>exact ⟨h1,h2⟩
   | some w=>
    have hm:=List.mem_of_getElem? hi
    have hil:=(List.getElem?_eq_some_iff.1 hi).1
    have hwr:writtenL es (ws.map (oldU es0)) i w.1=w.2:=by
     unfold writtenL
     have hno:((ws.map (oldU es0)).drop (i+1)).find? (fun u=>u.1 == w.1)=none:=by
      rw [List.find?_eq_none]
      intro u hu hq
      rw [← List.map_drop] at hu
      obtain ⟨v,hv,rfl⟩:=List.mem_map.1 hu
      have hv1:v.1=w.1:=by simpa [oldU] using hq
      obtain ⟨j,hj⟩:=List.getElem?_of_mem hv
      rw [List.getElem?_drop] at hj
      obtain ⟨hjl,hj2⟩:=List.getElem?_eq_some_iff.1 hj
      obtain ⟨_,hi2⟩:=List.getElem?_eq_some_iff.1 hi
      have:=(List.nodup_iff_pairwise_ne.1 hn)
      have h3:=(List.pairwise_iff_getElem.1 hn) i (i+1+j) (by simpa using hil) (by simpa using hjl) (by omega)
      simp only [List.getElem_map,hi2,hj2] at h3
      exact h3 hv1.symm
     rw [hno,he w hm]
     rfl
    show EsOK len (updS (lastN es (ws.map (oldU es0)) bs i) w.1 (writtenL es (ws.map (oldU es0)) i w.1)) ∧ ∀ e ∈ updS (lastN es (ws.map (oldU es0)) bs i) w.1 (writtenL es (ws.map (oldU es0)) i w.1),e ∈ ws
    rw [hwr]
    exact ⟨h1.updS (hw w hm),fun e he'=>(mem_updS he').elim (h2 e) fun e'=>by rw [e'];exact hm⟩
  ·exact ⟨h1,h2⟩
structure Torn (len:Nat) (es0:List (Nat × Tx)) (ws:List Wr) (es:List (Nat × Tx)):Prop where
 keys:EsOK len es
 at_:∀ k,find es k=find es0 k ∨ ∃ w ∈ ws,w.1=k∧find es k=some w.2
theorem wake_torn {A B:AD} {es0:List (Nat × Tx)} {ws:List Wr} (h:Dark A B es0 ws) (hk:EsOK B.len es0) (hn:(ws.map (·.1)).Nodup) (hw:∀ w ∈ ws,w.1<B.len) (bs:List Bool):Torn B.len es0 ws (B.wakeEs bs):=by
 obtain ⟨_,_,_,_,h1,h2⟩:=h
 have hh:=hist_nodup (es:=es0) (es0:=es0) hn fun _ _=>rfl
 rw [hh] at h2
 have hkB:EsOK B.len B.es:=by rw [h1];exact hk.laid hw
 obtain ⟨r1,r2⟩:=restI_ok (es0:=es0) hw ws.length B.es (Nat.le_refl _) hkB
 have hfe:∀ w ∈ ws,find B.es w.1=some w.2:=fun w hm=>by rw [h1];exact find_laid_mem hn hm
 obtain ⟨l1,l2⟩:=lastN_ok (len:=B.len) (es0:=es0) (es:=B.es) (bs:=bs) hn hw hfe ws.length
 have hul:B.us.length=ws.length:=by rw [h2,List.length_map]
 have hw':B.wakeEs bs=laid (restI (ws.map (oldU es0)) ws.length B.es) (lastN B.es (ws.map (oldU es0)) bs ws.length):=by
  unfold AD.wakeEs
  rw [hul,h2]
 have hb:∀ k,find (restI (ws.map (oldU es0)) ws.length B.es) k=find es0 k:=fun k=>by
  rw [r2,List.take_length]
  split
  ·rfl
  ·rename_i hm;rw [h1,find_laid_not hm]
 rw [hw']
 refine ⟨r1.laid fun e he=>hw e (l2 e he),fun k => ?_⟩
 by_cases hm:k ∈ (lastN B.es (ws.map (oldU es0)) bs ws.length).map (·.1)
 ·obtain ⟨e,he,rfl⟩:=List.mem_map.1 hm
  exact Or.inr ⟨e,l2 e he,rfl,find_laid_mem l1.nodup he⟩
 ·exact Or.inl (by rw [find_laid_not hm,hb])
end Go.Ev
end
section
namespace Go.Ev
def KIn (es:List (Nat × Tx)) (K:List Nat):Prop:=∀ k,(find es k).isSome=true→k ∈ K
theorem KIn.laid {K:List Nat}:∀ {ws:List Wr} {es:List (Nat × Tx)},KIn es K→(∀ w ∈ ws,w.1 ∈ K)→KIn (laid es ws) K
 | [],es,h,_=>h
 | w :: ws,es,h,hw=>KIn.laid (ws:=ws) (es:=updS es w.1 w.2) (fun k hk=>by
   rw [find_updS] at hk
   by_cases e:k=w.1
   ·rw [e];exact hw w (List.mem_cons_self ..)
   ·rw [if_neg e] at hk;exact h k hk) fun v hv=>hw v (List.mem_cons_of_mem _ hv)
def Rm (room:Nat) (es:List (Nat × Tx)) (ws:List Wr):Prop:=(∀ w ∈ ws,(find es w.1).isSome=true) ∨ ∃ K:List Nat,K.length≤room∧KIn es K ∧ ∀ w ∈ ws,w.1 ∈ K
theorem roomy_keys {room:Nat} {K:List Nat} (hK:K.length≤room):∀ {ws:List Wr} {es:List (Nat × Tx)},(es.map (·.1)).Nodup→KIn es K→(∀ w ∈ ws,w.1 ∈ K)→roomy room es ws
 | [],_,_,_,_=>trivial
 | w :: ws,es,hn,h,hw=>by
  refine ⟨?_,roomy_keys hK (ws:=ws) ?_ ?_ fun v hv=>hw v (List.mem_cons_of_mem _ hv)⟩
  ·by_cases hs:(find es w.1).isSome=true
   ·exact Or.inl hs
   ·right
    have hno:w.1 ∉ es.map (·.1):=fun hm=>hs (find_isSome.2 hm)
    have h1:(w.1 :: es.map (·.1)).Nodup:=List.nodup_cons.2 ⟨hno,hn⟩
    have h2:(w.1 :: es.map (·.1)) ⊆ K:=fun k hk=>by
     rcases List.mem_cons.1 hk with rfl | hk
     ·exact hw w (List.mem_cons_self ..)
     ·exact h k (find_isSome.2 hk)
    have:=List.Nodup.length_le_of_subset h1 h2
    simp only [List.length_cons,List.length_map] at this
    omega
  ·rw [updS_keys]
   split
   ·exact hn
   ·rename_i hno
    exact List.nodup_append.2 ⟨hn,by simp,fun x hx y hy=>by rw [List.mem_singleton.1 hy];rintro rfl;exact hno hx⟩
  ·intro k hk
   rw [find_updS] at hk
   by_cases e:k=w.1
   ·rw [e];exact hw w (List.mem_cons_self ..)
   ·rw [if_neg e] at hk;exact h k hk
theorem Rm.roomy {room len:Nat} {es:List (Nat × Tx)} {ws:List Wr} (h:Rm room es ws) (hk:EsOK len es):roomy room es ws:=by
 rcases h with h | ⟨K,h1,h2,h3⟩
 ·exact roomy_some h
 ·exact roomy_keys h1 hk.nodup h2 h3
theorem Rm.torn {room len:Nat} {es0 es:List (Nat × Tx)} {ws ws1:List Wr} (h:Rm room es0 ws) (t:Torn len es0 ws1 es) (hs:∀ w ∈ ws1,w ∈ ws):Rm room es ws:=by
 rcases h with h | ⟨K,h1,h2,h3⟩
 ·left
  intro w hw
  rcases t.at_ w.1 with e | ⟨v,_,_,e⟩
  ·rw [e];exact h w hw
  ·rw [e];rfl
 ·refine Or.inr ⟨K,h1,fun k hk => ?_,h3⟩
  rcases t.at_ k with e | ⟨v,hv,rfl,e⟩
  ·rw [e] at hk;exact h2 k hk
  ·exact h3 v (hs v hv)
structure RD (pk:List UInt8→List (List UInt8)) (A:AD) (a n:Nat) (ws:List Wr) (g:Nat→Option Tx):Prop where
 off:A.off=false
 keys:EsOK A.len A.es
 us:A.us=[]
 can:CanCommit A a n
 record:n≠0→n=(pk (recT ws)).length∧(∀ i (h:i < (pk (recT ws)).length),A.read (1+a * 72+i)=tx (pk (recT ws))[i])∧RecOK ws∧ws≠[]∧mayP A.len [] ws=true
 rm:n≠0→Rm A.room A.es ws
 goal:∀ k,145≤k→find (if n=0 then A.es else laid A.es ws) k=g k
variable {pk:List UInt8→List (List UInt8)} {unpk:List (List UInt8)→Option (List UInt8)}
theorem RD.rec_ {A:AD} {a n:Nat} {ws:List Wr} {g:Nat→Option Tx} (R:RD pk A a n ws g):CanRecover A pk a n ws:=⟨R.can,fun h=>let ⟨q1,q2,q3,q4,q5⟩:=R.record h; ⟨q1,q2,q3,q4,q5,(R.rm h).roomy R.keys⟩⟩
theorem JD.rd {A:AD} {a n:Nat} {ws:List Wr} (J:JD pk A a n ws):RD pk A a n ws (find A.es):=
 ⟨J.off,J.keys,J.us,J.rec_.can,fun h=>let ⟨q1,q2,q3,q4,q5,_⟩:=J.rec_.record h; ⟨q1,q2,q3,q4,q5⟩,fun h=>Or.inl fun w hw=>by rw [J.some_ h w hw];rfl,fun k _=>by
  by_cases h:n=0
  ·rw [if_pos h]
  ·rw [if_neg h];exact laid_same (J.some_ h)⟩
theorem RD.with_fuse {A:AD} {a n f:Nat} {ws:List Wr} {g:Nat→Option Tx} (R:RD pk A a n ws g):RD pk { A with fuse:=f } a n ws g:=by
 obtain ⟨h1,h2,h3,⟨k1,k2,k3,k4,k5,k6,k7⟩,h5,h6,h7⟩:=R
 exact ⟨h1,h2,h3,⟨k1,k2,k3,k4,k5,k6,k7⟩,h5,h6,h7⟩
theorem JD.with_fuse {A:AD} {a n f:Nat} {ws:List Wr} (J:JD pk A a n ws):JD pk { A with fuse:=f } a n ws:=by
 obtain ⟨h1,h2,h3,⟨⟨k1,k2,k3,k4,k5,k6,k7⟩,k8⟩,h5⟩:=J
 exact ⟨h1,h2,h3,⟨⟨k1,k2,k3,k4,k5,k6,k7⟩,k8⟩,h5⟩
theorem prefix_nodup {ws ws1 ws2:List Wr} (h:ws=ws1 ++ ws2) (hn:(ws.map (·.1)).Nodup):(ws1.map (·.1)).Nodup:=by
 rw [h,List.map_append] at hn
 exact (List.nodup_append.1 hn).1
theorem RD.recover {A:AD} {a n:Nat} {ws:List Wr} {g:Nat→Option Tx} (R:RD pk A a n ws g) :
  ((A.recover n ws).2=0∧JD pk (A.recover n ws).1 a n ws∧(A.recover n ws).1.len=A.len∧(A.recover n ws).1.room=A.room ∧ ∀ k,145≤k→find (A.recover n ws).1.es k=g k) ∨
  (A.fuse≠0∧(A.recover n ws).2=6∧(A.recover n ws).1.off=true∧(A.recover n ws).1.fuse=0∧(A.recover n ws).1.len=A.len∧(A.recover n ws).1.us.length<1000000∧(A.recover n ws).1.es.length<1000000 ∧ ∀ bs,RD pk ((A.recover n ws).1.wake bs) a n ws g):=by
 obtain ⟨h1,h2,h3,⟨k1,k2,k3,k4,k5,k6,k7⟩,h5,h6,h7⟩:=R
 unfold AD.recover
 rw [if_neg (by rw [h1];exact Bool.false_ne_true)]
 by_cases hn:n=0
 ·rw [if_pos hn]
  left
  refine ⟨rfl,⟨h1,h2,h3,⟨⟨k1,k2,k3,k4,k5,k6,k7⟩,fun h=>absurd hn h⟩,fun h=>absurd hn h⟩,rfl,rfl,fun k hk => ?_⟩
  have:=h7 k hk
  rwa [if_pos hn] at this
 ·rw [if_neg hn]
  obtain ⟨r1,r2,r3,r4,r5⟩:=h5 hn
  obtain ⟨hgood,hnd⟩:=mayP_good r5
  have h7':=fun k hk=>h7 k hk
  simp only [if_neg hn] at h7'
  have hnw:∀ k,k<145→k ∉ ws.map (·.1):=fun k hk hm=>by
   obtain ⟨v,hv,e⟩:=List.mem_map.1 hm
   have:=(hgood v hv).1.1
   omega
  have hlt:∀ w ∈ ws,w.1<A.len:=fun w hw=>(hgood w hw).1.2.1
  have hps:∀ i,i < (pk (recT ws)).length→1+a * 72+i<145:=fun i hi=>by omega
  rcases runs_crash (l:=[ws]) h1 h3 (fun us hus w hw=>by rw [List.mem_singleton.1 hus] at hw;exact r3.len w hw) with ⟨q1,q2,q3,q4,q5,q6⟩ | ⟨q1,l1,vs,l2,ws1,ws2,q2,q3,q4⟩
  ·left
   simp only [List.flatten_cons,List.flatten_nil,List.append_nil] at q6
   have hkB:EsOK (A.runs [ws]).1.len (A.runs [ws]).1.es:=by rw [q3,q6];exact h2.laid hlt
   have hlen:=hkB.length
   have hsome:∀ w ∈ ws,find (A.runs [ws]).1.es w.1=some w.2:=fun w hw=>by rw [q6];exact find_laid_mem hnd hw
   have hrd:∀ k,k<145→(A.runs [ws]).1.read k=A.read k:=fun k hk=>by rw [AD.read,AD.read,q6,find_laid_not (hnw k hk)]
   refine ⟨q1,⟨q5.trans h1,hkB,q2,⟨⟨by omega,by omega,by omega,by rw [q2];simp,by rw [hrd 0 (by omega)];exact k5,k6,k7⟩,fun _=>⟨r1,fun i hi=>by rw [hrd _ (hps i hi)];exact r2 i hi,r3,r4,by rw [q3];exact r5,roomy_some fun w hw=>by rw [hsome w hw];rfl⟩⟩,fun _=>hsome⟩,q3,q4,fun k hk => ?_⟩
   rw [q6];exact h7' k hk
  ·right
   have hl1:l1=[]∧vs=ws:=by
    cases l1 with
    | nil=>simp only [List.nil_append,List.cons.injEq] at q2;exact ⟨rfl,q2.1.symm⟩
    | cons x l1=>simp at q2
   obtain ⟨rfl,rfl⟩:=hl1
   simp only [List.flatten_nil] at q4
   have hq4:laid A.es []=A.es:=rfl
   rw [hq4] at q4
   have hsub:∀ w ∈ ws1,w ∈ vs:=fun w hw=>by rw [q3];exact List.mem_append_left _ hw
   have hfz:A.fuse≠0:=fun h0=>by have:=(runs_calm (l:=[vs]) h0).1;omega
   have hBl:=q4.len
   have hke:EsOK (A.runs [vs]).1.len (A.runs [vs]).1.es:=by rw [q4.hist.es,hBl];exact h2.laid fun w hw=>hlt w (hsub w hw)
   have hBe:=hke.length
   have hul:(A.runs [vs]).1.us.length=ws1.length:=by rw [q4.hist.us,hist_length]
   have hw1:ws1.length≤vs.length:=by rw [q3,List.length_append];omega
   have hnum:=r3.num
   refine ⟨hfz,q1,q4.off,q4.fuse,hBl,by omega,by omega,fun bs => ?_⟩
   have ht:=wake_torn q4 (by rw [hBl];exact h2) (prefix_nodup q3 hnd) (fun w hw=>by rw [hBl];exact hlt w (hsub w hw)) bs
   have hks:=ht.keys
   have hrd:∀ k,k<145→find ((A.runs [vs]).1.wakeEs bs) k=find A.es k:=fun k hk=>by
    rcases ht.at_ k with e | ⟨w,hw,e,_⟩
    ·exact e
    ·exact absurd (List.mem_map.2 ⟨w,hsub w hw,e⟩) (hnw k hk)
   have hread:∀ k,k<145→((A.runs [vs]).1.wake bs).read k=A.read k:=fun k hk=>by
    show (find ((A.runs [vs]).1.wakeEs bs) k).getD (32,0)=(find A.es k).getD (32,0)
    rw [hrd k hk]
   have hlW:((A.runs [vs]).1.wake bs).len=A.len:=hBl
   have hel:=hks.length
   refine ⟨rfl,hks,rfl,⟨by rw [hlW];exact k1,by rw [hlW];exact k2,by show ((A.runs [vs]).1.wakeEs bs).length<_;omega,by show 0<_;omega,by rw [hread 0 (by omega)];exact k5,k6,k7⟩,fun _=>⟨r1,fun i hi=>by rw [hread _ (hps i hi)];exact r2 i hi,r3,r4,by rw [hlW];exact r5⟩,fun _ => ?_,fun k hk => ?_⟩
   ·have:((A.runs [vs]).1.wake bs).room=A.room:=q4.room
    rw [this]
    exact (h6 hn).torn ht hsub
   ·rw [if_neg hn,← h7' k hk]
    show find (laid ((A.runs [vs]).1.wakeEs bs) vs) k=_
    by_cases hm:k ∈ vs.map (·.1)
    ·obtain ⟨w,hw,rfl⟩:=List.mem_map.1 hm
     rw [find_laid_mem hnd hw,find_laid_mem hnd hw]
    ·rw [find_laid_not hm,find_laid_not hm]
     rcases ht.at_ k with e | ⟨w,hw,e,_⟩
     ·exact e
     ·exact absurd (List.mem_map.2 ⟨w,hsub w hw,e⟩) hm
end Go.Ev
end
section
namespace Go.Ev
theorem fits_rm {A:AD} {ns:List Nat} {ws:List Wr} (h:A.fits ns=true) (hw:∀ w ∈ ws,w.1 ∈ ns):Rm A.room A.es ws:=by
 have h:=of_decide_eq_true h
 have hin:∀ n ∈ ns,(find A.es n).isSome=true∨n ∈ (frs A.es ns ns.length).map (·.1):=fun n hn=>by
  obtain ⟨i,hi,rfl⟩:=List.mem_iff_getElem.1 hn
  have hg:ns.getD i 0=ns[i]:=by rw [List.getD_eq_getElem?_getD,List.getElem?_eq_getElem hi];rfl
  by_cases hs:(find A.es ns[i]).isSome=true
  ·exact Or.inl hs
  ·right
   have:=frs_keys (es:=A.es) (ns:=ns) ns.length i hi (by rw [hg];simpa using hs)
   rwa [hg] at this
 rcases h with h | h
 ·left
  intro w hm
  rcases hin w.1 (hw w hm) with h1 | h1
  ·exact h1
  ·rw [List.eq_nil_of_length_eq_zero h] at h1;cases h1
 ·refine Or.inr ⟨A.es.map (·.1) ++ (frs A.es ns ns.length).map (·.1),by simp only [List.length_append,List.length_map];exact h,fun k hk=>List.mem_append_left _ (find_isSome.1 hk),fun w hm => ?_⟩
  rcases hin w.1 (hw w hm) with h1 | h1
  ·exact List.mem_append_left _ (find_isSome.1 h1)
  ·exact List.mem_append_right _ h1
theorem Rm.laid {room:Nat} {es:List (Nat × Tx)} {ws us:List Wr} (h:Rm room es ws) (hs:∀ w ∈ us,w ∈ ws):Rm room (laid es us) ws:=by
 rcases h with h | ⟨K,h1,h2,h3⟩
 ·exact Or.inl fun w hw=>find_laid_some (h w hw)
 ·exact Or.inr ⟨K,h1,h2.laid fun w hw=>h3 w (hs w hw),h3⟩
theorem Rm.sub {room:Nat} {es:List (Nat × Tx)} {ws us:List Wr} (h:Rm room es ws) (hs:∀ w ∈ us,w ∈ ws):Rm room es us:=by
 rcases h with h | ⟨K,h1,h2,h3⟩
 ·exact Or.inl fun w hw=>h w (hs w hw)
 ·exact Or.inr ⟨K,h1,h2,fun w hw=>h3 w (hs w hw)⟩
variable {pk:List UInt8→List (List UInt8)} {unpk:List (List UInt8)→Option (List UInt8)}
theorem RD.old {A B:AD} {a n:Nat} {us:List Wr} (J:JD pk A a n us) (ho:B.off=false) (hu:B.us=[]) (hl:B.len=A.len) (hk:EsOK B.len B.es) (h0:find B.es 0=find A.es 0) (ha:∀ i,i<72→find B.es (1+a * 72+i)=find A.es (1+a * 72+i)) (hf:∀ k,145≤k→find B.es k=find A.es k):RD pk B a n us (find A.es):=by
 obtain ⟨h1,h2,h3,⟨⟨k1,k2,k3,k4,k5,k6,k7⟩,k8⟩,h5⟩:=J
 have hlB:=hk.length
 refine ⟨ho,hk,hu,⟨by omega,by omega,by omega,by rw [hu];show 0<_;omega,by rw [AD.read,h0];exact k5,k6,k7⟩,fun hn => ?_,fun hn=>Or.inl fun w hw => ?_,fun k hk' => ?_⟩
 ·obtain ⟨q1,q2,q3,q4,q5,_⟩:=k8 hn
  exact ⟨q1,fun i hi=>by rw [AD.read,ha i (by omega)];exact q2 i hi,q3,q4,by rw [hl];exact q5⟩
 ·obtain ⟨_,_,_,_,q5,_⟩:=k8 hn
  rw [hf _ ((mayP_good q5).1 w hw).1.1,h5 hn w hw];rfl
 ·by_cases hn:n=0
  ·rw [if_pos hn,hf k hk']
  ·rw [if_neg hn,find_laid_congr (hf k hk'),laid_same (h5 hn)]
theorem RD.new {A B:AD} {a n m:Nat} {us ws:List Wr} (J:JD pk A a n us) (hm:mayP A.len [] ws=true) (hrec:RecOK ws) (h0:ws≠[]) (hmn:m=(pk (recT ws)).length) (hm72:m≤72) (hm0:m≠0) (ho:B.off=false) (hu:B.us=[]) (hl:B.len=A.len) (hk:EsOK B.len B.es) (hh:find B.es 0=some (tx (hdr (1-a) m))) (hfst:∀ i (h:i < (pk (recT ws)).length),find B.es (1+(1-a) * 72+i)=some (tx (pk (recT ws))[i])) (hf:∀ k,145≤k→k ∉ ws.map (·.1)→find B.es k=find A.es k) (hr:Rm B.room B.es ws):RD pk B (1-a) m ws (find (laid A.es ws)):=by
 obtain ⟨h1,h2,h3,⟨⟨k1,k2,k3,k4,k5,k6,k7⟩,k8⟩,h5⟩:=J
 have hlB:=hk.length
 obtain ⟨hgood,hnd⟩:=mayP_good hm
 refine ⟨ho,hk,hu,⟨by omega,by omega,by omega,by rw [hu];show 0<_;omega,by rw [AD.read,hh];rfl,by omega,hm72⟩,fun hn=>⟨hmn,fun i hi=>by rw [AD.read,hfst i hi];rfl,hrec,h0,by rw [hl];exact hm⟩,fun hn=>hr,fun k hk' => ?_⟩
 rw [if_neg hm0]
 by_cases hin:k ∈ ws.map (·.1)
 ·obtain ⟨w,hw,rfl⟩:=List.mem_map.1 hin
  rw [find_laid_mem hnd hw,find_laid_mem hnd hw]
 ·rw [find_laid_not hin,find_laid_not hin,hf k hk' hin]
structure Cut (pk:List UInt8→List (List UInt8)) (A:AD) (ws:List Wr) (B:AD × Nat):Prop where
 off:B.1.off=true
 e:B.2=6
 fuse:B.1.fuse=0
 lit:A.fuse≠0
 len:B.1.len=A.len
 room:B.1.room=A.room
 us:B.1.us.length<1000000
 es:B.1.es.length<1000000
 next:∀ bs,∃ a n us g,RD pk (B.1.wake bs) a n us g∧((∀ k,145≤k→g k=find A.es k)∨(∀ k,145≤k→g k=find (laid A.es ws) k))
structure Ran (pk:List UInt8→List (List UInt8)) (A:AD) (ws:List Wr) (B B0:AD × Nat):Prop where
 off:B.1.off=false
 e:B.2=B0.2
 len:B.1.len=A.len
 room:B.1.room=A.room
 es:B.1.es=B0.1.es
 jd:∃ a n us,JD pk B.1 a n us
theorem JD.commit_any (F:FrameOK pk unpk) {A:AD} {a n:Nat} {us ws:List Wr} (J:JD pk A a n us) (hws:∀ w ∈ ws,okT w.2) :
  Ran pk A ws (A.commit pk a ws) (({ A with fuse:=0 }:AD).commit pk a ws)∨(Cut pk A ws (A.commit pk a ws)∧(({ A with fuse:=0 }:AD).commit pk a ws).2=0):=by
 have same:∀ e,Ran pk A ws (A,e) ({ A with fuse:=0 },e):=fun e=>⟨J.off,rfl,rfl,rfl,rfl,⟨_,_,_,J⟩⟩
 unfold AD.commit
 rw [if_neg (by rw [J.off];exact Bool.false_ne_true),if_neg (show ¬ ({ A with fuse:=0 }:AD).off=true by rw [show ({ A with fuse:=0 }:AD).off=A.off from rfl,J.off];exact Bool.false_ne_true)]
 by_cases h0:ws.length=0
 ·rw [if_pos h0,if_pos h0];exact Or.inl (same 0)
 rw [if_neg h0,if_neg h0]
 by_cases h6:60<ws.length
 ·rw [if_pos h6,if_pos h6];exact Or.inl (same 3)
 rw [if_neg h6,if_neg h6]
 by_cases hm:mayP A.len [] ws=false
 ·rw [if_pos hm,if_pos (show mayP ({ A with fuse:=0 }:AD).len [] ws=false from hm)];exact Or.inl (same 2)
 rw [if_neg hm,if_neg (show ¬ mayP ({ A with fuse:=0 }:AD).len [] ws=false from hm)]
 have hm:mayP A.len [] ws=true:=by simpa using hm
 by_cases hfit:A.fits (0 :: (outs (1-a) (pk (recT ws)) ++ ws).map (·.1))=true
 ·rw [if_pos hfit,if_pos (show ({ A with fuse:=0 }:AD).fits (0 :: (outs (1-a) (pk (recT ws)) ++ ws).map (·.1))=true from hfit)]
  obtain ⟨hgood,hnd⟩:=mayP_good hm
  have hJ:=J
  obtain ⟨h1,h2,h3,⟨⟨k1,k2,k3,k4,k5,k6,k7⟩,k8⟩,h5⟩:=J
  have hrec:RecOK ws:=⟨by omega,fun w hw=>by have:=(hgood w hw).1.2.1;omega,fun w hw=>(hgood w hw).1.2.2,hws⟩
  have htl:=hrec.text
  have hpkn:=F.num _ htl
  have hpkp:=F.pos (recT ws) (by omega)
  have hpkl:=F.len (recT ws) (by omega)
  have ha1:1-a<2:=by omega
  have hwn:ws≠[]:=fun h=>h0 (by rw [h];rfl)
  have hm0:(pk (recT ws)).length≠0:=fun h=>hpkp (List.eq_nil_of_length_eq_zero h)
  have hout:=outs_good (a:=1-a) ha1 hpkn hpkl
  have hond:=outs_nodup (1-a) (pk (recT ws))
  have hom:∀ i (h:i < (pk (recT ws)).length),((1+(1-a) * 72+i,tx (pk (recT ws))[i]):Wr) ∈ outs (1-a) (pk (recT ws)):=fun i h=>by
   simp only [outs,List.mem_mapIdx]
   exact ⟨i,h,rfl⟩
  have houtm:∀ w ∈ outs (1-a) (pk (recT ws)),1+(1-a) * 72≤w.1∧w.1<1+(1-a) * 72+72:=fun w hw=>by
   obtain ⟨i,hi,rfl⟩:=outs_mem hw
   exact ⟨Nat.le_add_right _ _,by show 1+(1-a) * 72+i<_;omega⟩
  have hhd:=hdr_wr (1-a) (pk (recT ws)).length
  have h32:∀ l ∈ [outs (1-a) (pk (recT ws)),[(0,tx (hdr (1-a) (pk (recT ws)).length))],ws],∀ w ∈ l,w.2.1=32:=fun us hus w hw=>by
   simp only [List.mem_cons,List.not_mem_nil,or_false] at hus
   rcases hus with rfl | rfl | rfl
   ·exact (hout w hw).2
   ·rw [List.mem_singleton.1 hw];exact hhd
   ·exact (hgood w hw).1.2.2
  have hrm:Rm A.room A.es (outs (1-a) (pk (recT ws)) ++ (0,tx (hdr (1-a) (pk (recT ws)).length)) :: ws):=fits_rm hfit fun w hw=>by
   rcases List.mem_append.1 hw with h | h
   ·exact List.mem_cons_of_mem _ (List.mem_map.2 ⟨w,List.mem_append_left _ h,rfl⟩)
   ·rcases List.mem_cons.1 h with rfl | h
    ·exact List.mem_cons_self ..
    ·exact List.mem_cons_of_mem _ (List.mem_map.2 ⟨w,List.mem_append_right _ h,rfl⟩)
  have hran:=fun (B:AD)=>hJ.ran (B:=B) F hm (by omega) hwn hws
  obtain ⟨z1,z2⟩:=runs_calm (A:={ A with fuse:=0 }) (l:=[outs (1-a) (pk (recT ws)),[(0,tx (hdr (1-a) (pk (recT ws)).length))],ws]) rfl
  obtain ⟨⟨zz1,zz2,zz3,zz4⟩,_⟩:=runs_went (A:={ A with fuse:=0 }) h32 z1
  have hnw:∀ k,k<145→k ∉ ws.map (·.1):=fun k hk hm=>by
   obtain ⟨v,hv,e⟩:=List.mem_map.1 hm
   have:=(hgood v hv).1.1
   omega
  generalize hq:outs (1-a) (pk (recT ws))=first at *
  generalize hdq:tx (hdr (1-a) (pk (recT ws)).length)=hd at *
  have hnf:∀ k,(k<1+(1-a) * 72∨1+(1-a) * 72+72≤k)→k ∉ first.map (·.1):=fun k hk hm=>by
   obtain ⟨v,hv,e⟩:=List.mem_map.1 hm
   have:=houtm v hv
   omega
  have hk1:EsOK A.len (laid A.es first):=h2.laid fun v hv=>by have:=(hout v hv).1;omega
  have hk2:EsOK A.len (laid A.es (first ++ [(0,hd)])):=by rw [laid_append];exact hk1.laid fun v hv=>by rw [List.mem_singleton.1 hv];show 0<A.len;omega
  have hf1:∀ i (h:i < (pk (recT ws)).length),find (laid A.es first) (1+(1-a) * 72+i)=some (tx (pk (recT ws))[i]):=fun i h=>by
   have:=hom i h
   exact find_laid_mem hond this
  have hf2:∀ k,find (laid A.es (first ++ [(0,hd)])) k=if k=0 then some hd else find (laid A.es first) k:=fun k=>by
   rw [laid_append];exact find_updS _ _ _ _
  have a01:∀ i,i<72→(1+a * 72+i<1+(1-a) * 72∨1+(1-a) * 72+72≤1+a * 72+i):=fun i hi=>by omega
  have hfl:(pk (recT ws)).length=first.length:=by rw [← hq,outs_length]
  rcases runs_crash (A:=A) (l:=[first,[(0,hd)],ws]) h1 h3 h32 with ⟨q1,q2,q3⟩ | ⟨q1,l1,vs,l2,ws1,ws2,q2,q3,q4⟩
  ·left
   have q3':Went A (A.runs [first,[(0,hd)],ws]).1 (laid A.es (first ++ (0,hd) :: ws)):=by simpa using q3
   obtain ⟨j1,j2⟩:=hran _ q3' q2
   exact ⟨q3.off.trans h1,q1.trans z1.symm,q3.len,q3.room,q3.es.trans zz4.symm,⟨_,_,_,j1⟩⟩
  ·right
   refine ⟨?_,z1⟩
   have hfz:A.fuse≠0:=fun h0=>by have:=(runs_calm (l:=[first,[(0,hd)],ws]) h0).1;omega
   have hBl:=q4.len
   have hBr:=q4.room
   have hw1:ws1.length≤vs.length:=by rw [q3,List.length_append];omega
   have hul:(A.runs [first,[(0,hd)],ws]).1.us.length=ws1.length:=by rw [q4.hist.us,hist_length]
   have hsub:∀ w ∈ ws1,w ∈ vs:=fun w hw=>by rw [q3];exact List.mem_append_left _ hw
   have fin:EsOK A.len (laid A.es l1.flatten)→(∀ w ∈ ws1,w.1<A.len)→vs.length≤100→(∀ bs,∃ a n us g,RD pk ((A.runs [first,[(0,hd)],ws]).1.wake bs) a n us g∧((∀ k,145≤k→g k=find A.es k)∨(∀ k,145≤k→g k=find (laid A.es ws) k)))→Cut pk A ws (A.runs [first,[(0,hd)],ws]):=fun hke hlt hv hn=>by
    have hke':EsOK (A.runs [first,[(0,hd)],ws]).1.len (A.runs [first,[(0,hd)],ws]).1.es:=by rw [q4.hist.es,hBl];exact hke.laid hlt
    have:=hke'.length
    exact ⟨q4.off,q1,q4.fuse,hfz,hBl,hBr,by omega,by omega,hn⟩
   cases l1 with
   | nil=>
    simp only [List.nil_append,List.cons.injEq] at q2
    obtain ⟨rfl,_⟩:=q2
    have hlt:∀ w ∈ ws1,w.1<A.len:=fun w hw=>by have:=(hout w (hsub w hw)).1;omega
    refine fin h2 hlt (by omega) fun bs=>⟨a,n,us,_, ?_,Or.inl fun _ _=>rfl⟩
    have ht:=wake_torn q4 (by rw [hBl];exact h2) (prefix_nodup q3 hond) (fun w hw=>by rw [hBl];exact hlt w hw) bs
    have hat:∀ k,(k<1+(1-a) * 72∨1+(1-a) * 72+72≤k)→find ((A.runs [first,[(0,hd)],ws]).1.wakeEs bs) k=find A.es k:=fun k hk=>by
     rcases ht.at_ k with e | ⟨w,hw,e,_⟩
     ·exact e
     ·exact absurd (List.mem_map.2 ⟨w,hsub w hw,e⟩) (hnf k hk)
    exact RD.old hJ rfl rfl hBl ht.keys (hat 0 (by omega)) (fun i hi=>hat _ (a01 i hi)) fun k hk=>hat k (by omega)
   | cons x l1=>
   cases l1 with
   | nil=>
    simp only [List.cons_append,List.nil_append,List.cons.injEq] at q2
    obtain ⟨rfl,rfl,_⟩:=q2
    have hes0:laid A.es [first].flatten=laid A.es first:=by simp
    have hlt:∀ w ∈ ws1,w.1<A.len:=fun w hw=>by rw [List.mem_singleton.1 (hsub w hw)];show 0<A.len;omega
    refine fin (by rw [hes0];exact hk1) hlt (by simp) fun bs => ?_
    have ht:=wake_torn q4 (by rw [hBl,hes0];exact hk1) (prefix_nodup q3 (by simp)) (fun w hw=>by rw [hBl];exact hlt w hw) bs
    rw [hes0] at ht
    have hat:∀ k,k≠0→find ((A.runs [first,[(0,hd)],ws]).1.wakeEs bs) k=find (laid A.es first) k:=fun k hk=>by
     rcases ht.at_ k with e | ⟨w,hw,e,_⟩
     ·exact e
     ·rw [List.mem_singleton.1 (hsub w hw)] at e;exact absurd e.symm hk
    rcases ht.at_ 0 with e | ⟨w,hw,_,e⟩
    ·refine ⟨a,n,us,_, ?_,Or.inl fun _ _=>rfl⟩
     exact RD.old hJ rfl rfl hBl ht.keys (e.trans (find_laid_not (hnf 0 (by omega)))) (fun i hi=>(hat _ (by omega)).trans (find_laid_not (hnf _ (a01 i hi)))) fun k hk=>(hat _ (by omega)).trans (find_laid_not (hnf _ (by omega)))
    ·refine ⟨1-a,(pk (recT ws)).length,ws,_, ?_,Or.inr fun _ _=>rfl⟩
     rw [List.mem_singleton.1 (hsub w hw)] at e
     refine RD.new hJ hm hrec hwn rfl hpkn hm0 rfl rfl hBl ht.keys (e.trans (by rw [hdq])) (fun i hi=>(hat _ (by omega)).trans (hf1 i hi)) (fun k hk _=>(hat _ (by omega)).trans (find_laid_not (hnf _ (by omega)))) ?_
     have:((A.runs [first,[(0,hd)],ws]).1.wake bs).room=A.room:=q4.room
     rw [this]
     exact ((hrm.laid (us:=first) fun w hw=>List.mem_append_left _ hw).torn ht (fun w hw=>by rw [List.mem_singleton.1 (hsub w hw)];simp)).sub fun w hw=>by simp [hw]
   | cons y l1=>
   cases l1 with
   | nil=>
    simp only [List.cons_append,List.nil_append,List.cons.injEq] at q2
    obtain ⟨rfl,rfl,rfl,_⟩:=q2
    have hes0:laid A.es [first,[(0,hd)]].flatten=laid A.es (first ++ [(0,hd)]):=by simp
    have hlt:∀ w ∈ ws1,w.1<A.len:=fun w hw=>(hgood w (hsub w hw)).1.2.1
    refine fin (by rw [hes0];exact hk2) hlt (by omega) fun bs => ?_
    have ht:=wake_torn q4 (by rw [hBl,hes0];exact hk2) (prefix_nodup q3 hnd) (fun w hw=>by rw [hBl];exact hlt w hw) bs
    rw [hes0] at ht
    have hat:∀ k,k ∉ ws.map (·.1)→find ((A.runs [first,[(0,hd)],ws]).1.wakeEs bs) k=if k=0 then some hd else find (laid A.es first) k:=fun k hk=>by
     rcases ht.at_ k with e | ⟨w,hw,e,_⟩
     ·rw [e,hf2]
     ·exact absurd (List.mem_map.2 ⟨w,hsub w hw,e⟩) hk
    refine ⟨1-a,(pk (recT ws)).length,ws,_, ?_,Or.inr fun _ _=>rfl⟩
    refine RD.new hJ hm hrec hwn rfl hpkn hm0 rfl rfl hBl ht.keys ((hat 0 (hnw 0 (by omega))).trans (by rw [if_pos rfl,hdq])) (fun i hi=>by rw [show find ((A.runs [first,[(0,hd)],ws]).1.wake bs).es _=_ from hat _ (hnw _ (by omega)),if_neg (by omega),hf1 i hi]) (fun k hk hno=>by rw [show find ((A.runs [first,[(0,hd)],ws]).1.wake bs).es _=_ from hat _ hno,if_neg (by omega),find_laid_not (hnf _ (by omega))]) ?_
    have:((A.runs [first,[(0,hd)],ws]).1.wake bs).room=A.room:=q4.room
    rw [this]
    exact ((hrm.laid (us:=first ++ [(0,hd)]) fun w hw=>by rcases List.mem_append.1 hw with h | h;exact List.mem_append_left _ h;exact List.mem_append_right _ (by rw [List.mem_singleton.1 h];simp)).torn ht (fun w hw=>by simp [hsub w hw])).sub fun w hw=>by simp [hw]
   | cons z l1=>simp at q2
 ·rw [if_neg hfit,if_neg (show ¬ ({ A with fuse:=0 }:AD).fits (0 :: (outs (1-a) (pk (recT ws)) ++ ws).map (·.1))=true from hfit)];exact Or.inl (same 7)
end Go.Ev
end
section
namespace Go.Ev
def RdAt (G:Heap) (r:Nat) (s:List UInt8) (pos:Nat):Prop:=∃ b,G.get r=rdBlk b s pos∧r<G.n∧G.get b = .bytes s.length (enc s)∧b<G.n∧b≠r
theorem RdAt.same {G G':Heap} {r pos:Nat} {s:List UInt8} (h:RdAt G r s pos) (hn:G.n≤G'.n) (hs:∀ j,j<G.n→(∃ x,G.get j = .bytes s.length x)∨j=r→G'.get j=G.get j):RdAt G' r s pos:=by
 obtain ⟨b,h1,h2,h3,h4,h5⟩:=h
 exact ⟨b,(hs r h2 (Or.inr rfl)).trans h1,by omega,(hs b h4 (Or.inl ⟨_,h3⟩)).trans h3,by omega,h5⟩
section
variable {cp:RC→CodeE} {t:Nat→Option FnE} {fuel:Nat} {H:Heap}
theorem num_step (T:TCode t) {G:Heap} {r pos n:Nat} {s rest:List UInt8} (f:Fresh H G) (hr:RdAt G r s pos) (hrH:H.n≤r) (hlen:s.length<1000000) (hn:n<18446744073709551616) (hd:s.drop pos=pnum n ++ rest) (hfu:8<fuel) :
  ∃ G',(∀ (d:Nat) (k:K),callP (evP cp t fuel (d+2)) (.func 101 [.ptr r 0]) [] G k=k (.int 7 n) G')∧RdAt G' r s (pos+(pnum n).length)∧Fresh H G'∧(∀ j,j≠r→G'.get j=G.get j)∧G'.n=G.n:=by
 obtain ⟨b,h1,h2,h3,h4,h5⟩:=hr
 have hw:=f.wf
 refine ⟨G.put r (rdBlk b s (pos+(pnum n).length)),fun d k => ?_,⟨b,by rw [Heap.get_put hw h2,if_pos rfl],by rw [Heap.n_put];exact h2,by rw [Heap.get_put hw h2,if_neg h5];exact h3,by rw [Heap.n_put];exact h4,h5⟩,f.put hrH h2,fun j hj=>by rw [Heap.get_put hw h2,if_neg hj],Heap.n_put⟩
 rw [call_bound (f:=101) (g:=100) rfl rfl rfl]
 exact num_call T hw h1 h2 h3 h5 hlen hn hd hfu
theorem ok_step (T:TCode t) {G:Heap} {r pos:Nat} {s:List UInt8} (hr:RdAt G r s pos) (d:Nat) (k:K):callP (evP cp t fuel (d+1)) (.func 103 [.ptr r 0]) [] G k=k (.bool true) G:=by
 obtain ⟨b,h1,_⟩:=hr
 rw [call_bound (f:=103) (g:=102) rfl rfl rfl]
 exact ok_call T h1
set_option maxHeartbeats 1000000 in
theorem next_call (T:TCode t) (hc:HasClone t) {G:Heap} {BD BA BE dp j:Nat} {A:AD} {O:Nat→Prop} {va:V} {row:List V} {s:List UInt8} (f:Fresh H G) (hD:Disk H dp A O) (ho:A.off=false) (hlen:145+j<A.len) (hA:A.len≤1024) (hrd:A.read (145+j)=tx s) (hs32:s.length=32)
  (gD:G.get BD = .cells [.ptr dp 0]) (gA:G.get BA = .cells [va]) (gE:G.get BE = .cells [.int 3 0]) (hBA:H.n≤BA) (hBE:H.n≤BE) (nD:BD<G.n) (nA:BA<G.n) (nE:BE<G.n) (x1:BA≠BE) (x2:BD≠BA) (x3:BD≠BE) (hg:Gr H G va 1 j row) (oD:Off va BD) (oA:Off va BA) (oE:Off va BE) :
  ∃ G' r va',(∀ (d:Nat) (k:K),callP (evP cp t fuel (d+4)) (.func 96 [.ptr BD 0, .ptr BA 0, .ptr BE 0]) [] G k=k (.tup [.func 101 [.ptr r 0], .func 103 [.ptr r 0]]) G')∧Fresh H G'∧RdAt G' r s 0∧G.n≤r∧G'.get BA = .cells [va']∧G'.get BE = .cells [.int 3 0]∧Gr H G' va' 1 (j+1) (row ++ [tv s]) ∧
   (∀ i,i<G.n→i≠BA→i≠BE→Off va i→G'.get i=G.get i)∧G.n≤G'.n ∧ ∀ i,i<G.n→Off va' i:=by
 have hnG:=f.n
 obtain ⟨G1,z1,f1⟩:=read_all (cp:=cp) (fuel:=fuel) (a:=145+j) (T.disk4 hc) (hD.fresh f) ho hlen
 rw [hrd] at z1
 have hw1:=f1.wf
 have m1:=f1.n
 have gE1:G1.get BE = .cells [.int 3 0]:=(f1.same _ nE).trans gE
 have gA1:G1.get BA = .cells [va]:=(f1.same _ nA).trans gA
 have gD1:G1.get BD = .cells [.ptr dp 0]:=(f1.same _ nD).trans gD
 have f2:Fresh H (G1.put BE (.cells [.int 3 0])):=(f.trans f1).put hBE (by omega)
 have g2:∀ i,(G1.put BE (.cells [.int 3 0])).get i=G1.get i:=fun i=>by
  rw [Heap.get_put hw1 (by omega)]
  split
  ·rename_i e;rw [e,gE1]
  ·rfl
 have n2:(G1.put BE (.cells [.int 3 0])).n=G1.n:=Heap.n_put
 generalize hG2:G1.put BE (.cells [.int 3 0])=G2 at f2 g2 n2
 have hw2:=f2.wf
 have f3:Fresh G2 (G2.new (.cells [tv s])):=Fresh.new hw2
 have g3:(G2.new (.cells [tv s])).get G2.n = .cells [tv s]:=by rw [Heap.get_new hw2,if_pos rfl]
 have n3:(G2.new (.cells [tv s])).n=G2.n+1:=Heap.n_new
 have hg3:Gr H (G2.new (.cells [tv s])) va 1 j row:=by
  obtain ⟨q1,q2,q3 | ⟨b,c,z,q3,q4,q5,q6,q7,q8⟩⟩:=hg
  ·exact ⟨q1,q2,Or.inl q3⟩
  ·exact ⟨q1,q2,Or.inr ⟨b,c,z,q3,q4,q5,by rw [f3.same b (by omega),g2,f1.same b q8];exact q6,q7,by omega⟩⟩
 have hjb:j<1000000:=by omega
 obtain ⟨va',G4,hop,hg4,f4,k4,n4,o4⟩:=Gr.app (cx:=2) (sx:=0) (f2.trans f3) hg3 g3 rfl (by simp [tv,V.one]) hjb
 have hw4:=f4.wf
 have gA4:G4.get BA = .cells [va]:=by rw [k4 BA (by omega) oA,f3.same BA (by omega),g2];exact gA1
 have f5:Fresh H (G4.put BA (.cells [va'])):=f4.put hBA (by omega)
 have g5:∀ i,i≠BA→(G4.put BA (.cells [va'])).get i=G4.get i:=fun i hi=>by rw [Heap.get_put hw4 (by omega),if_neg hi]
 have g5A:(G4.put BA (.cells [va'])).get BA = .cells [va']:=by rw [Heap.get_put hw4 (by omega),if_pos rfl]
 have n5:(G4.put BA (.cells [va'])).n=G4.n:=Heap.n_put
 generalize hG5:G4.put BA (.cells [va'])=G5 at f5 g5 g5A n5
 have hw5:=f5.wf
 have z6:=fun {d:Nat} {k:K}=>newReader_call (cp:=cp) (fuel:=fuel) (d:=d) (k:=k) (l:=s) T hw5 (by omega)
 have f6:Fresh G5 ((G5.new (.bytes s.length (enc s))).new (rdBlk G5.n s 0)):=(Fresh.new hw5).trans (Fresh.new (by rw [Heap.wf_new];exact hw5))
 have g6r:((G5.new (.bytes s.length (enc s))).new (rdBlk G5.n s 0)).get (G5.n+1)=rdBlk G5.n s 0:=by rw [Heap.get_new (by rw [Heap.wf_new];exact hw5),if_pos (by rw [Heap.n_new])]
 have g6b:((G5.new (.bytes s.length (enc s))).new (rdBlk G5.n s 0)).get G5.n = .bytes s.length (enc s):=by rw [Heap.get_new (by rw [Heap.wf_new];exact hw5),if_neg (by rw [Heap.n_new];omega),Heap.get_new hw5,if_pos rfl]
 have n6:((G5.new (.bytes s.length (enc s))).new (rdBlk G5.n s 0)).n=G5.n+1+1:=by simp only [Heap.n_new]
 generalize hG6:(G5.new (.bytes s.length (enc s))).new (rdBlk G5.n s 0)=G6 at z6 f6 g6r g6b n6
 have hall:∀ i,i<G.n→i≠BA→i≠BE→Off va i→G6.get i=G.get i:=fun i h1 h2 h3 h4=>by
  rw [f6.same i (by omega),g5 i h2,k4 i (by omega) h4,f3.same i (by omega),g2,f1.same i h1]
 refine ⟨G6,G5.n+1,va',fun d k => ?_,f5.trans f6,⟨G5.n,g6r,by omega,g6b,by omega,by omega⟩,by omega,(f6.same BA (by omega)).trans g5A, ?_, ?_,hall,by omega,fun i hi=>o4 i (by omega)⟩
 ·have hsn:=fun {id:Nat} {g:Nat→R}=>hg.sn (id:=id) (f:=g)
  have hi':=fun {id:Nat} {k:R}=>is1_of hg4.one (id:=id) (k:=k)
  have hi:=fun {id:Nat} {k:R}=>is1_of hg.one (id:=id) (k:=k)
  have z1':=fun {d:Nat} {k:K}=>z1 d k
  have z6':=fun {d:Nat} {k:K}=>z6 (d:=d+2) (k:=k)
  have e1:j<9223372036854775808:=by omega
  have e2:(145+j) % 18446744073709551616=145+j:=by omega
  have e3:BE<G1.n:=by omega
  have e4:BA<G4.n:=by omega
  have gE2:G2.get BE = .cells [.int 3 0]:=(g2 BE).trans gE1
  have gA2:G2.get BA = .cells [va]:=(g2 BA).trans gA1
  simp only [sv,tx] at z1'
  simp only [tv] at z6' hop
  rw [call_entry T.k48 rfl rfl]
  simp only [go_sem,reduceCtorEq,Nat.reduceAdd,Nat.reduceSub,Nat.reduceMul,Nat.reduceDiv,Nat.reduceMod,↓reduceIte,c48,gD,gA,↓hsn,e1,e2,z1',hw1,gE1,e3,hG2,gE2,gA2,hw2,↓hop,hi,hi',gA4,hw4,e4,hG5,z6']
 ·rw [f6.same BE (by omega),g5 BE (Ne.symm x1),k4 BE (by omega) oE,f3.same BE (by omega),g2];exact gE1
 ·obtain ⟨q1,q2,q3 | ⟨b,c,z,q3,q4,q5,q6,q7,q8⟩⟩:=hg4
  ·exact ⟨q1,q2,Or.inl q3⟩
  ·have hb:BA≠b:=o4 BA (by omega) b 0 (j+1) c z q3
   exact ⟨q1,q2,Or.inr ⟨b,c,z,q3,q4,q5,by rw [f6.same b (by omega),g5 b (Ne.symm hb)];exact q6,q7,by omega⟩⟩
end
end Go.Ev
end
section
namespace Go.Ev
structure RdS (H G:Heap) (dp BD BA BE BH term voted:Nat) (va vl:V) (ss:List V) (es:List Ent):Prop where
 f:Fresh H G
 gD:G.get BD = .cells [.ptr dp 0]
 gA:G.get BA = .cells [va]
 gE:G.get BE = .cells [.int 3 0]
 gH:G.get BH = .cells [.int 7 term, .int 3 voted,vl]
 nD:BD<G.n
 nA:BA<G.n
 nE:BE<G.n
 nH:BH<G.n
 ga:Gr H G va 1 ss.length ss
 gl:Gr H G vl 4 es.length (encEnt es)
 oa:∀ i,i=BD∨i=BA∨i=BE∨i=BH→Off va i
 ol:∀ i,i=BD∨i=BA∨i=BE∨i=BH→Off vl i
 al:∀ b o n c s,vl = .slice b o n c s→Off va b
theorem enT_drop (e:Ent):∃ r1 r2 r3 r4,(enT e).drop 0=pnum e.1 ++ r1∧(enT e).drop (0+(pnum e.1).length)=pnum e.2.1 ++ r2∧(enT e).drop (0+(pnum e.1).length+(pnum e.2.1).length)=pnum e.2.2.1 ++ r3∧(enT e).drop (0+(pnum e.1).length+(pnum e.2.1).length+(pnum e.2.2.1).length)=pnum e.2.2.2 ++ r4:=by
 have h:enT e=pnum e.1 ++ (pnum e.2.1 ++ (pnum e.2.2.1 ++ (pnum e.2.2.2 ++ ([] ++ List.replicate (32-(nums [e.1,e.2.1,e.2.2.1,e.2.2.2]).length) 0)))):=by
  unfold enT sec
  have:nums [e.1,e.2.1,e.2.2.1,e.2.2.2]=pnum e.1 ++ (pnum e.2.1 ++ (pnum e.2.2.1 ++ (pnum e.2.2.2 ++ []))):=rfl
  conv=>lhs;rw [this]
  simp only [List.append_assoc,this]
 generalize hr:([] ++ List.replicate (32-(nums [e.1,e.2.1,e.2.2.1,e.2.2.2]).length) (0:UInt8))=rr at h
 refine ⟨pnum e.2.1 ++ (pnum e.2.2.1 ++ (pnum e.2.2.2 ++ rr)),pnum e.2.2.1 ++ (pnum e.2.2.2 ++ rr),pnum e.2.2.2 ++ rr,rr,by rw [List.drop_zero];exact h, ?_, ?_, ?_⟩
 ·rw [h,Nat.zero_add,List.drop_left]
 ·rw [h,Nat.zero_add,← List.drop_drop,List.drop_left,List.drop_left]
 ·rw [h,Nat.zero_add,← List.drop_drop,← List.drop_drop,List.drop_left,List.drop_left,List.drop_left]
theorem min_un {k:Nat} (h:k≤3):mmN false 0 18446744073709551616 k 4=k:=by
 unfold mmN
 rw [if_neg (by decide),Nat.add_zero,Nat.add_zero,Nat.mod_eq_of_lt (by omega),Nat.mod_eq_of_lt (by omega)]
 split <;> omega
section
variable {cp:RC→CodeE} {t:Nat→Option FnE} {fuel:Nat} {H:Heap}
theorem entry_steps (T:TCode t) {G1:Heap} {r:Nat} {e:Ent} (f:Fresh H G1) (hr:RdAt G1 r (enT e) 0) (hrH:H.n≤r) (ho:okE e) (hk:e.2.1≤3) (hfu:8<fuel) :
  ∃ G2 G4 G6 G8,(∀ (d:Nat) (k:K),callP (evP cp t fuel (d+2)) (.func 101 [.ptr r 0]) [] G1 k=k (.int 7 e.1) G2)∧G2.wf∧G2.n=G1.n ∧
   (∀ (d:Nat) (k:K),callP (evP cp t fuel (d+2)) (.func 101 [.ptr r 0]) [] ((G2.new (.cells [.int 7 0, .int 3 0, .int 7 0, .int 7 0])).put G2.n (.cells [.int 7 e.1, .int 3 0, .int 7 0, .int 7 0])) k=k (.int 7 e.2.1) G4)∧G4.wf∧G4.n=G2.n+1∧G4.get G2.n = .cells [.int 7 e.1, .int 3 0, .int 7 0, .int 7 0] ∧
   (∀ (d:Nat) (k:K),callP (evP cp t fuel (d+2)) (.func 101 [.ptr r 0]) [] (G4.put G2.n (.cells [.int 7 e.1, .int 3 e.2.1, .int 7 0, .int 7 0])) k=k (.int 7 e.2.2.1) G6)∧G6.wf∧G6.n=G2.n+1∧G6.get G2.n = .cells [.int 7 e.1, .int 3 e.2.1, .int 7 0, .int 7 0] ∧
   (∀ (d:Nat) (k:K),callP (evP cp t fuel (d+2)) (.func 101 [.ptr r 0]) [] (G6.put G2.n (.cells [.int 7 e.1, .int 3 e.2.1, .int 7 e.2.2.1, .int 7 0])) k=k (.int 7 e.2.2.2) G8)∧G8.wf∧G8.n=G2.n+1∧G8.get G2.n = .cells [.int 7 e.1, .int 3 e.2.1, .int 7 e.2.2.1, .int 7 0] ∧
   Fresh H (G8.put G2.n (.cells (encEnt1 e)))∧(∀ j,j<G1.n→j≠r→(G8.put G2.n (.cells (encEnt1 e))).get j=G1.get j)∧(G8.put G2.n (.cells (encEnt1 e))).get G2.n = .cells (encEnt1 e)∧(∃ pos,RdAt (G8.put G2.n (.cells (encEnt1 e))) r (enT e) pos):=by
 obtain ⟨r1,r2,r3,r4,d1,d2,d3,d4⟩:=enT_drop e
 have hlen:(enT e).length<1000000:=by rw [show (enT e).length=32 from sec_length (en32 (by omega))];omega
 have hrn:r<G1.n:=let ⟨_,_,h,_⟩:=hr;h
 obtain ⟨G2,z2,q2,f2,s2,n2⟩:=num_step (cp:=cp) (fuel:=fuel) T f hr hrH hlen ho.1 d1 hfu
 have hHn:=f.n
 have w2:=f2.wf
 have f3:Fresh H ((G2.new (.cells [.int 7 0, .int 3 0, .int 7 0, .int 7 0])).put G2.n (.cells [.int 7 e.1, .int 3 0, .int 7 0, .int 7 0])):=(f2.trans (Fresh.new w2)).put (by omega) (by rw [Heap.n_new];omega)
 have n3:((G2.new (.cells [.int 7 0, .int 3 0, .int 7 0, .int 7 0])).put G2.n (.cells [.int 7 e.1, .int 3 0, .int 7 0, .int 7 0])).n=G2.n+1:=by rw [Heap.n_put,Heap.n_new]
 have g3:((G2.new (.cells [.int 7 0, .int 3 0, .int 7 0, .int 7 0])).put G2.n (.cells [.int 7 e.1, .int 3 0, .int 7 0, .int 7 0])).get G2.n = .cells [.int 7 e.1, .int 3 0, .int 7 0, .int 7 0]:=by rw [Heap.get_put (by rw [Heap.wf_new];exact w2) (by rw [Heap.n_new];omega),if_pos rfl]
 have s3:∀ j,j<G2.n→((G2.new (.cells [.int 7 0, .int 3 0, .int 7 0, .int 7 0])).put G2.n (.cells [.int 7 e.1, .int 3 0, .int 7 0, .int 7 0])).get j=G2.get j:=fun j hj=>by rw [Heap.get_put (by rw [Heap.wf_new];exact w2) (by rw [Heap.n_new];omega),if_neg (by omega),Heap.get_new w2,if_neg (by omega)]
 generalize hG3:(G2.new (.cells [.int 7 0, .int 3 0, .int 7 0, .int 7 0])).put G2.n (.cells [.int 7 e.1, .int 3 0, .int 7 0, .int 7 0])=G3 at f3 n3 g3 s3
 obtain ⟨G4,z4,q4,f4,s4,n4⟩:=num_step (cp:=cp) (fuel:=fuel) T f3 (q2.same (by omega) fun j hj _=>s3 j hj) hrH hlen ho.2.1 d2 hfu
 have g4:=(s4 G2.n (by omega)).trans g3
 have w4:=f4.wf
 have put4:∀ (G:Heap) (x:Blk),Fresh H G→G.n=G2.n+1→Fresh H (G.put G2.n x)∧(G.put G2.n x).n=G2.n+1∧(G.put G2.n x).get G2.n=x ∧ ∀ j,j<G2.n→(G.put G2.n x).get j=G.get j:=fun G x fG hn=>
  ⟨fG.put (by omega) (by omega),by rw [Heap.n_put];exact hn,by rw [Heap.get_put fG.wf (by omega),if_pos rfl],fun j hj=>by rw [Heap.get_put fG.wf (by omega),if_neg (by omega)]⟩
 obtain ⟨f5,n5,g5,s5⟩:=put4 G4 (.cells [.int 7 e.1, .int 3 e.2.1, .int 7 0, .int 7 0]) f4 (n4.trans n3)
 generalize hG5:G4.put G2.n (.cells [.int 7 e.1, .int 3 e.2.1, .int 7 0, .int 7 0])=G5 at f5 n5 g5 s5
 have rdn:∀ {G G':Heap} {pos:Nat},RdAt G r (enT e) pos→G.n=G2.n+1→G'.n=G2.n+1→(∃ l,G.get G2.n = .cells l)→(∀ j,j<G2.n→G'.get j=G.get j)→RdAt G' r (enT e) pos:=fun {G G' pos} hq hn hn' hx hs=>hq.same (by omega) fun j hj hb=>by
  by_cases h2:j<G2.n
  ·exact hs j h2
  ·obtain ⟨l,hl⟩:=hx
   have:j=G2.n:=by omega
   subst this
   rcases hb with ⟨y,hy⟩ | hy
   ·rw [hl] at hy;cases hy
   ·omega
 obtain ⟨G6,z6,q6,f6,s6,n6⟩:=num_step (cp:=cp) (fuel:=fuel) T f5 (rdn q4 (n4.trans n3) n5 ⟨_,g4⟩ s5) hrH hlen ho.2.2.1 d3 hfu
 have g6:=(s6 G2.n (by omega)).trans g5
 obtain ⟨f7,n7,g7,s7⟩:=put4 G6 (.cells [.int 7 e.1, .int 3 e.2.1, .int 7 e.2.2.1, .int 7 0]) f6 (n6.trans n5)
 generalize hG7:G6.put G2.n (.cells [.int 7 e.1, .int 3 e.2.1, .int 7 e.2.2.1, .int 7 0])=G7 at f7 n7 g7 s7
 obtain ⟨G8,z8,q8,f8,s8,n8⟩:=num_step (cp:=cp) (fuel:=fuel) T f7 (rdn q6 (n6.trans n5) n7 ⟨_,g6⟩ s7) hrH hlen ho.2.2.2 d4 hfu
 have g8:=(s8 G2.n (by omega)).trans g7
 obtain ⟨f9,n9,g9,s9⟩:=put4 G8 (.cells (encEnt1 e)) f8 (n8.trans n7)
 refine ⟨G2,G4,G6,G8,z2,w2,n2,by rw [hG3];exact z4,w4,n4.trans n3,g4,by rw [hG5];exact z6,f6.wf,n6.trans n5,g6,by rw [hG7];exact z8,f8.wf,n8.trans n7,g8,f9,fun j hj hjr => ?_,g9,⟨_,rdn q8 (n8.trans n7) n9 ⟨_,g8⟩ s9⟩⟩
 rw [s9 j (by omega),s8 j hjr,s7 j (by omega),s6 j hjr,s5 j (by omega),s4 j hjr,s3 j (by omega),s2 j hjr]
end
end Go.Ev
end
section
namespace Go.Ev
theorem Gr.same {H G G':Heap} {v:V} {size n:Nat} {row:List V} (h:Gr H G v size n row) (hn:G.n≤G'.n) (hs:∀ b o l c s,v = .slice b o l c s→b<G.n→G'.get b=G.get b):Gr H G' v size n row:=by
 obtain ⟨h1,h2,h | ⟨b,c,s,g1,g2,g3,g4,g5,g6⟩⟩:=h
 ·exact ⟨h1,h2,Or.inl h⟩
 ·exact ⟨h1,h2,Or.inr ⟨b,c,s,g1,g2,g3,(hs _ _ _ _ _ g1 g6).trans g4,g5,by omega⟩⟩
theorem Gr.blk {H G:Heap} {v:V} {size n:Nat} {row:List V} (h:Gr H G v size n row) {b o l c s:Nat} (hv:v = .slice b o l c s):b<G.n∧G.get b = .cells row:=by
 obtain ⟨h1,h2,h | ⟨b',c',s',g1,g2,g3,g4,g5,g6⟩⟩:=h
 ·rw [hv] at h;cases h.1
 ·rw [hv] at g1;cases g1;exact ⟨g6,g4⟩
theorem encEnt_step {es:List Ent} {i:Nat} {e:Ent} (h:es[i]? = some e):encEnt (es.take (i+1))=encEnt (es.take i) ++ encEnt1 e:=by
 obtain ⟨hi,rfl⟩:=List.getElem?_eq_some_iff.1 h
 unfold encEnt
 rw [List.take_succ_eq_append_getElem hi,List.flatMap_append]
 simp only [List.flatMap_cons,List.flatMap_nil,List.append_nil]
section
variable {cp:RC→CodeE} {t:Nat→Option FnE} {fuel:Nat} {H:Heap}
set_option maxHeartbeats 2000000 in
theorem read_loop (T:TCode t) (hc:HasClone t) {dp BD BA BE BH term voted:Nat} {A:AD} {O:Nat→Prop} {es:List Ent} {h0:List UInt8} (hD:Disk H dp A O) (ho:A.off=false) (hlA:145+es.length<A.len) (hA:A.len≤1024) (hsec:∀ i e,es[i]? = some e→A.read (146+i)=tx (enT e)) (hok:∀ e ∈ es,okE e∧e.2.1≤3)
  (bA:H.n≤BA) (bE:H.n≤BE) (bH:H.n≤BH) (x1:BA≠BE) (x2:BD≠BA) (x3:BD≠BE) (x4:BH≠BA) (x5:BH≠BE) (x6:BH≠BD) (hfu:8<fuel) :
  ∀ (m i:Nat) (G:Heap) (va vl:V),i+m=es.length→RdS H G dp BD BA BE BH term voted va vl (secs h0 (es.take i)) (es.take i) →
  ∃ G' va' vl',RdS H G' dp BD BA BE BH term voted va' vl' (secs h0 es) es ∧ ∀ (d:Nat) (kx:Nat→KE) (rr:Nat) (e:Env),m<rr→pget ⟨.i0, .i0, .i2⟩ e = .ptr BH 0→pget ⟨.i0, .i0, .i3⟩ e = .ptr BA 0→pget ⟨.i0, .i0, .i4⟩ e = .ptr BE 0→pget ⟨.i0, .i0, .i5⟩ e = .func 96 [.ptr BD 0, .ptr BA 0, .ptr BE 0]→pget ⟨.i0, .i1, .i1⟩ e = .int 7 es.length →
   ∀ x:R,(∀ e',pget ⟨.i0, .i0, .i2⟩ e' = .ptr BH 0→pget ⟨.i0, .i0, .i3⟩ e' = .ptr BA 0→pget ⟨.i0, .i0, .i4⟩ e' = .ptr BE 0→kx 1 e' G'=x) →
   evL c27l0 fuel (evP cp t fuel (d+4)) kx rr e G=x:=by
 intro m
 induction m with
 | zero=>
  intro i G va vl hi S
  obtain rfl:i=es.length:=by omega
  rw [List.take_length] at S
  refine ⟨G,va,vl,S,fun d kx rr e hr h2 h3 h4 h5 h11 x hT => ?_⟩
  obtain ⟨rr,rfl⟩:∃ q,rr=q+1:=⟨rr-1,by omega⟩
  have hsl:(secs h0 es).length=1+es.length:=by simp [secs];omega
  have hsn:=fun {id:Nat} {g:Nat→R}=>S.ga.sn (id:=id) (f:=g)
  rw [hsl] at hsn
  have gE:=S.gE
  have gA:=S.gA
  have e1:1+es.length<9223372036854775808:=by omega
  have e2:nn (1+es.length):=by unfold nn;omega
  have e3:nn es.length:=by unfold nn;omega
  have e4:¬ 1+es.length≤es.length:=by omega
  have e5:es.length % 18446744073709551616=es.length:=by omega
  rw [evL_succ]
  simp only [go_sem,reduceCtorEq,↓reduceIte,c27l0,h2,h3,h4,h5,h11,gE,gA,↓hsn,e1,e2,e3,e4,e5]
  exact hT _ (by simp only [go_sem,reduceCtorEq,↓reduceIte,h2]) (by simp only [go_sem,reduceCtorEq,↓reduceIte,h3]) (by simp only [go_sem,reduceCtorEq,↓reduceIte,h4])
 | succ m ih=>
  intro i G va vl hi S
  have hlt:i<es.length:=by omega
  have hget:es[i]? = some es[i]:=List.getElem?_eq_getElem hlt
  generalize es[i]=en at hget
  obtain ⟨oke,ke⟩:=hok en (List.mem_of_getElem? hget)
  have htl:(es.take i).length=i:=by rw [List.length_take];omega
  have hsl:(secs h0 (es.take i)).length=1+i:=by simp [secs,htl];omega
  have hga:Gr H G va 1 (1+i) (secs h0 (es.take i)):=by have:=S.ga;rwa [hsl] at this
  have hgl:Gr H G vl 4 i (encEnt (es.take i)):=by have:=S.gl;rwa [htl] at this
  have hfn:=S.f.n
  have nD:=S.nD
  have nA:=S.nA
  have nE:=S.nE
  have nH:=S.nH
  obtain ⟨G1,r,va',z0,f1,hR,hr1,gA1,gE1,hga1,k1,n1,o1⟩:=next_call (cp:=cp) (fuel:=fuel) (j:=1+i) (s:=enT en) T hc S.f hD ho (by omega) hA (by rw [show 145+(1+i)=146+i by omega];exact hsec i en hget) (sec_length (en32 (by omega))) S.gD S.gA S.gE bA bE nD nA nE x1 x2 x3 hga (S.oa BD (by simp)) (S.oa BA (by simp)) (S.oa BE (by simp))
  obtain ⟨G2,G4,G6,G8,z2,w2,m2,z4,w4,m4,g4,z6,w6,m6,g6,z8,w8,m8,g8,f9,s9,g9,pos,q9⟩:=entry_steps (cp:=cp) (fuel:=fuel) T f1 hR (by omega) oke ke hfu
  have m9:(G8.put G2.n (.cells (encEnt1 en))).n=G2.n+1:=by rw [Heap.n_put];exact m8
  generalize hG9:G8.put G2.n (.cells (encEnt1 en))=G9 at f9 s9 g9 q9 m9
  have s9':∀ j,j<G.n→j≠BA→j≠BE→Off va j→G9.get j=G.get j:=fun j h1 h2 h3 h4=>(s9 j (by omega) (by omega)).trans (k1 j h1 h2 h3 h4)
  have w9:=f9.wf
  have gA9:G9.get BA = .cells [va']:=(s9 BA (by omega) (by omega)).trans gA1
  have gE9:G9.get BE = .cells [.int 3 0]:=(s9 BE (by omega) (by omega)).trans gE1
  have gD9:G9.get BD = .cells [.ptr dp 0]:=(s9' BD nD x2 x3 (S.oa BD (by simp))).trans S.gD
  have gH9:G9.get BH = .cells [.int 7 term, .int 3 voted,vl]:=(s9' BH nH x4 x5 (S.oa BH (by simp))).trans S.gH
  have hgl9:Gr H G9 vl 4 i (encEnt (es.take i)):=hgl.same (by omega) fun b o l c s hv hb=>s9' b hb (fun h=>S.ol BA (by simp) b o l c s hv h.symm) (fun h=>S.ol BE (by simp) b o l c s hv h.symm) (S.al b o l c s hv)
  have hga9:Gr H G9 va' 1 (1+i+1) (secs h0 (es.take i) ++ [tv (enT en)]):=hga1.same (by omega) fun b o l c s hv hb=>s9 b hb (fun h=>by
   obtain ⟨_,hx⟩:=hga1.blk hv
   obtain ⟨b',y1,y2,y3,_⟩:=hR
   rw [h,y1] at hx
   unfold rdBlk at hx
   simp only [Blk.cells.injEq] at hx
   have hlen:=congrArg List.length hx
   have:=hga1.1
   have hl2:(secs h0 (es.take i) ++ [tv (enT en)]).length=2+i:=by simp [hsl];omega
   rw [hl2] at hlen
   have hlast:=congrArg (fun l=>l[0]?) hx
   simp [secs,tv] at hlast)
  have f10:Fresh G9 (G9.new (.cells (encEnt1 en))):=Fresh.new w9
  have g10:(G9.new (.cells (encEnt1 en))).get G9.n = .cells (encEnt1 en):=by rw [Heap.get_new w9,if_pos rfl]
  have m10:(G9.new (.cells (encEnt1 en))).n=G9.n+1:=Heap.n_new
  have hgl10:Gr H (G9.new (.cells (encEnt1 en))) vl 4 i (encEnt (es.take i)):=hgl9.same (by omega) fun b o l c s hv hb=>f10.same b hb
  obtain ⟨vl',G11,hop,hgl11,f11,k11,m11,o11⟩:=Gr.app (cx:=2) (sx:=0) (f9.trans f10) hgl10 g10 rfl (by simp [encEnt1,V.one]) (by omega)
  have w11:=f11.wf
  have k11':∀ j,j<G9.n→Off vl j→G11.get j=G9.get j:=fun j h1 h2=>(k11 j (by omega) h2).trans (f10.same j h1)
  have gH11:G11.get BH = .cells [.int 7 term, .int 3 voted,vl]:=(k11' BH (by omega) (S.ol BH (by simp))).trans gH9
  have f12:Fresh H (G11.put BH (.cells [.int 7 term, .int 3 voted,vl'])):=f11.put bH (by omega)
  have g12:∀ j,j≠BH→(G11.put BH (.cells [.int 7 term, .int 3 voted,vl'])).get j=G11.get j:=fun j hj=>by rw [Heap.get_put w11 (by omega),if_neg hj]
  have g12H:(G11.put BH (.cells [.int 7 term, .int 3 voted,vl'])).get BH = .cells [.int 7 term, .int 3 voted,vl']:=by rw [Heap.get_put w11 (by omega),if_pos rfl]
  have m12:(G11.put BH (.cells [.int 7 term, .int 3 voted,vl'])).n=G11.n:=Heap.n_put
  generalize hG12:G11.put BH (.cells [.int 7 term, .int 3 voted,vl'])=G12 at f12 g12 g12H m12
  have olA:Off vl BA:=S.ol BA (by simp)
  have olE:Off vl BE:=S.ol BE (by simp)
  have olD:Off vl BD:=S.ol BD (by simp)
  have htl':(es.take (i+1)).length=i+1:=by rw [List.length_take];omega
  have hss:secs h0 (es.take i) ++ [tv (enT en)]=secs h0 (es.take (i+1)):=by
   unfold secs
   rw [take_step' (fun e=>tv (enT e)) hget];rfl
  have hsl':(secs h0 (es.take (i+1))).length=1+i+1:=by rw [← hss];simp [hsl]
  have S':RdS H G12 dp BD BA BE BH term voted va' vl' (secs h0 (es.take (i+1))) (es.take (i+1)):=by
   refine ⟨f12, ?_, ?_, ?_,g12H,by omega,by omega,by omega,by omega, ?_, ?_, ?_, ?_, ?_⟩
   ·rw [g12 BD (Ne.symm x6),k11' BD (by omega) olD];exact gD9
   ·rw [g12 BA (Ne.symm x4),k11' BA (by omega) olA];exact gA9
   ·rw [g12 BE (Ne.symm x5),k11' BE (by omega) olE];exact gE9
   ·rw [hsl',← hss]
    refine hga9.same (by omega) fun b o l c s hv hb => ?_
    have hb1:=(hga1.blk hv).1
    rw [g12 b (fun h=>o1 BH nH b o l c s hv h.symm),k11' b hb fun b' o' l' c' s' hv' h => ?_]
    subst h
    have hlt':=(hgl.blk hv').1
    exact o1 b hlt' b o l c s hv rfl
   ·rw [htl',encEnt_step hget]
    refine hgl11.same (by omega) fun b o l c s hv hb=>g12 b fun h=>o11 BH (by omega) b o l c s hv h.symm
   ·intro j hj
    have:j<G.n:=by rcases hj with rfl | rfl | rfl | rfl <;> assumption
    exact o1 j this
   ·intro j hj
    have:j<G.n:=by rcases hj with rfl | rfl | rfl | rfl <;> assumption
    exact o11 j (by omega)
   ·intro b o l c s hv b' o' l' c' s' hv' h
    subst h
    have:=(hga9.blk hv').1
    exact o11 b (by omega) b o l c s hv rfl
  obtain ⟨G',va2,vl2,hS',hL⟩:=ih (i+1) G12 va' vl' (by omega) S'
  refine ⟨G',va2,vl2,hS',fun d kx rr e hr h2 h3 h4 h5 h11 x hT => ?_⟩
  obtain ⟨rr,rfl⟩:∃ q,rr=q+1:=⟨rr-1,by omega⟩
  have hsn:=fun {id:Nat} {g:Nat→R}=>hga.sn (id:=id) (f:=g)
  have hi1:=fun {id:Nat} {k:R}=>is1_of hgl11.one (id:=id) (k:=k)
  have gE:=S.gE
  have gA:=S.gA
  have e1:1+i<9223372036854775808:=by omega
  have e2:nn (1+i):=by unfold nn;omega
  have e3:nn es.length:=by unfold nn;omega
  have e4:1+i≤es.length:=by omega
  have e5:es.length % 18446744073709551616=es.length:=by omega
  have e6:en.2.1 % 18446744073709551616=en.2.1:=by omega
  have e7:=min_un ke
  have e8:G2.n<G2.n+1:=by omega
  have e9:G2.n<G4.n:=by omega
  have e10:G2.n<G6.n:=by omega
  have e11:G2.n<G8.n:=by omega
  have e12:BH<G11.n:=by omega
  have z0':=fun {k:K}=>z0 d k
  have z2':=fun {k:K}=>z2 (d+2) k
  have z4':=fun {k:K}=>z4 (d+2) k
  have z6':=fun {k:K}=>z6 (d+2) k
  have z8':=fun {k:K}=>z8 (d+2) k
  have zok:=fun {k:K}=>ok_step (cp:=cp) (fuel:=fuel) T q9 (d+3) k
  simp only [encEnt1] at hG9 g9 hop
  rw [evL_succ]
  simp only [go_sem,reduceCtorEq,Nat.reduceAdd,Nat.reduceSub,Nat.reduceMul,Nat.reduceEqDiff,Nat.reduceLeDiff,Nat.reduceDiv,Nat.reduceMod,↓reduceIte,c27l0,h2,h3,h4,h5,h11,gE,gA,↓hsn,e1,e2,e3,e4,e5,z0',z2',w2,e8,z4',e7,e6,w4,g4,e9,z6',w6,g6,e10,z8',w8,g8,e11,hG9,gE9,zok,gH9,g9,w9,↓hop,hi1,gH11,w11,e12,hG12]
  refine hL d kx rr _ (by omega) ?_ ?_ ?_ ?_ ?_ x hT
  ·simp only [go_sem,reduceCtorEq,↓reduceIte,h2]
  ·simp only [go_sem,reduceCtorEq,↓reduceIte,h3]
  ·simp only [go_sem,reduceCtorEq,↓reduceIte,h4]
  ·simp only [go_sem,reduceCtorEq,↓reduceIte,h5]
  ·simp only [go_sem,reduceCtorEq,↓reduceIte,h11]
end
end Go.Ev
end
section
namespace Go.Ev
theorem sec3_drop (a b c:Nat):∃ r1 r2 r3,(sec [a,b,c]).drop 0=pnum a ++ r1∧(sec [a,b,c]).drop (0+(pnum a).length)=pnum b ++ r2∧(sec [a,b,c]).drop (0+(pnum a).length+(pnum b).length)=pnum c ++ r3:=by
 have hn:nums [a,b,c]=pnum a ++ (pnum b ++ (pnum c ++ [])):=rfl
 have h:sec [a,b,c]=pnum a ++ (pnum b ++ (pnum c ++ ([] ++ List.replicate (32-(nums [a,b,c]).length) 0))):=by
  unfold sec
  conv=>lhs;rw [hn]
  simp only [List.append_assoc,hn]
 generalize hr:([] ++ List.replicate (32-(nums [a,b,c]).length) (0:UInt8))=rr at h
 refine ⟨pnum b ++ (pnum c ++ rr),pnum c ++ rr,rr,by rw [List.drop_zero];exact h, ?_, ?_⟩
 ·rw [h,Nat.zero_add,List.drop_left]
 ·rw [h,Nat.zero_add,← List.drop_drop,List.drop_left,List.drop_left]
structure HasK (A:AD) (term voted:Nat) (es:List Ent):Prop where
 lo:446≤A.len
 hi:A.len≤1024
 head:A.read 145=tx (hdT term voted es.length)
 ents:∀ i e,es[i]? = some e→A.read (146+i)=tx (enT e)
structure OkK (term voted:Nat) (es:List Ent):Prop where
 t:term<18446744073709551616
 v:voted<18446744073709551616
 v3:(voted+1) % 18446744073709551616≤3
 n:es.length≤300
 es:∀ e ∈ es,okE e∧e.2.1≤3
section
variable {cp:RC→CodeE} {t:Nat→Option FnE} {fuel:Nat} {H:Heap}
set_option maxHeartbeats 2000000 in
theorem kread_call (T:TCode t) (hc:HasClone t) {dp term voted:Nat} {A:AD} {O:Nat→Prop} {es:List Ent} (hD:Disk H dp A O) (ho:A.off=false) (K:HasK A term voted es) (Y:OkK term voted es) (hfu:100000<fuel) :
  ∃ H' vl va,(∀ (d:Nat) (k:Go.Ev.K),callP (evP cp t fuel (d+5)) (.func 54 []) [.ptr dp 0] H k=k (.tup [.agg [.int 7 term, .int 3 voted,vl],va, .int 3 0]) H')∧Fresh H H'∧LogN H H' vl es∧Gr H H' va 1 (1+es.length) (secs (hdT term voted es.length) es):=by
 have hw:=hD.wf
 obtain ⟨y1,y2,y3,y4,y5⟩:=Y
 obtain ⟨k1,k2,k3,k4⟩:=K
 have f0:Fresh H ((((H.new (.cells [.ptr dp 0])).new (.cells [.int 7 0, .int 3 0, .nils])).new (.cells [.nils])).new (.cells [.int 3 0])):=(((Fresh.new hw).trans (Fresh.new (by simp only [Heap.wf_new,hw]))).trans (Fresh.new (by simp only [Heap.wf_new,hw]))).trans (Fresh.new (by simp only [Heap.wf_new,hw]))
 have gD0:((((H.new (.cells [.ptr dp 0])).new (.cells [.int 7 0, .int 3 0, .nils])).new (.cells [.nils])).new (.cells [.int 3 0])).get H.n = .cells [.ptr dp 0]:=by
  rw [Heap.get_new (by simp only [Heap.wf_new,hw]),if_neg (by simp only [Heap.n_new];omega),Heap.get_new (by simp only [Heap.wf_new,hw]),if_neg (by simp only [Heap.n_new];omega),Heap.get_new (by simp only [Heap.wf_new,hw]),if_neg (by simp only [Heap.n_new];omega),Heap.get_new hw,if_pos rfl]
 have gH0:((((H.new (.cells [.ptr dp 0])).new (.cells [.int 7 0, .int 3 0, .nils])).new (.cells [.nils])).new (.cells [.int 3 0])).get (H.n+1) = .cells [.int 7 0, .int 3 0, .nils]:=by
  rw [Heap.get_new (by simp only [Heap.wf_new,hw]),if_neg (by simp only [Heap.n_new];omega),Heap.get_new (by simp only [Heap.wf_new,hw]),if_neg (by simp only [Heap.n_new];omega),Heap.get_new (by simp only [Heap.wf_new,hw]),if_pos (by simp only [Heap.n_new])]
 have gA0:((((H.new (.cells [.ptr dp 0])).new (.cells [.int 7 0, .int 3 0, .nils])).new (.cells [.nils])).new (.cells [.int 3 0])).get (H.n+1+1) = .cells [.nils]:=by
  rw [Heap.get_new (by simp only [Heap.wf_new,hw]),if_neg (by simp only [Heap.n_new];omega),Heap.get_new (by simp only [Heap.wf_new,hw]),if_pos (by simp only [Heap.n_new])]
 have gE0:((((H.new (.cells [.ptr dp 0])).new (.cells [.int 7 0, .int 3 0, .nils])).new (.cells [.nils])).new (.cells [.int 3 0])).get (H.n+1+1+1) = .cells [.int 3 0]:=by
  rw [Heap.get_new (by simp only [Heap.wf_new,hw]),if_pos (by simp only [Heap.n_new])]
 have n0:((((H.new (.cells [.ptr dp 0])).new (.cells [.int 7 0, .int 3 0, .nils])).new (.cells [.nils])).new (.cells [.int 3 0])).n=H.n+1+1+1+1:=by simp only [Heap.n_new]
 generalize hG0:(((H.new (.cells [.ptr dp 0])).new (.cells [.int 7 0, .int 3 0, .nils])).new (.cells [.nils])).new (.cells [.int 3 0])=G0 at f0 gD0 gH0 gA0 gE0 n0
 have off0:∀ i,Off .nils i:=fun i b o n c s h=>by cases h
 obtain ⟨G1,r,va,z1,f1,hR,hr1,gA1,gE1,hga1,s1,n1,o1⟩:=next_call (cp:=cp) (fuel:=fuel) (j:=0) (BD:=H.n) (BA:=H.n+1+1) (BE:=H.n+1+1+1) (s:=hdT term voted es.length) T hc f0 hD ho (by omega) k2 k3 (sec_length (hd32 _ _ _)) gD0 gA0 gE0 (by omega) (by omega) (by omega) (by omega) (by omega) (by omega) (by omega) (by omega) Gr.nils (off0 _) (off0 _) (off0 _)
 have hlen:(hdT term voted es.length).length<1000000:=by rw [show (hdT term voted es.length).length=32 from sec_length (hd32 _ _ _)];omega
 obtain ⟨r1,r2,r3,d1,d2,d3⟩:=sec3_drop term ((voted+1) % 18446744073709551616) es.length
 have gH1:G1.get (H.n+1) = .cells [.int 7 0, .int 3 0, .nils]:=(s1 _ (by omega) (by omega) (by omega) (off0 _)).trans gH0
 have gD1:G1.get H.n = .cells [.ptr dp 0]:=(s1 _ (by omega) (by omega) (by omega) (off0 _)).trans gD0
 have hrn1:r<G1.n:=let ⟨_,_,h,_⟩:=hR;h
 obtain ⟨G2,z2,q2,f2,s2,n2⟩:=num_step (cp:=cp) (fuel:=fuel) T f1 hR (by omega) hlen y1 d1 (by omega)
 have gH2:G2.get (H.n+1) = .cells [.int 7 0, .int 3 0, .nils]:=(s2 _ (by omega)).trans gH1
 have w2:=f2.wf
 have f3:Fresh H (G2.put (H.n+1) (.cells [.int 7 term, .int 3 0, .nils])):=f2.put (by omega) (by omega)
 have s3:∀ j,j≠H.n+1→(G2.put (H.n+1) (.cells [.int 7 term, .int 3 0, .nils])).get j=G2.get j:=fun j hj=>by rw [Heap.get_put w2 (by omega),if_neg hj]
 have g3:(G2.put (H.n+1) (.cells [.int 7 term, .int 3 0, .nils])).get (H.n+1) = .cells [.int 7 term, .int 3 0, .nils]:=by rw [Heap.get_put w2 (by omega),if_pos rfl]
 have n3:(G2.put (H.n+1) (.cells [.int 7 term, .int 3 0, .nils])).n=G2.n:=Heap.n_put
 generalize hG3:G2.put (H.n+1) (.cells [.int 7 term, .int 3 0, .nils])=G3 at f3 s3 g3 n3
 have q3:RdAt G3 r (hdT term voted es.length) (0+(pnum term).length):=q2.same (by omega) fun j hj hb=>s3 j fun h=>by
  subst h
  rcases hb with ⟨x,hb⟩ | hb
  ·rw [gH2] at hb;cases hb
  ·omega
 obtain ⟨G4,z4,q4,f4,s4,n4⟩:=num_step (cp:=cp) (fuel:=fuel) T f3 q3 (by omega) hlen (by omega) d2 (by omega)
 obtain ⟨G5,z5,q5,f5,s5,n5⟩:=num_step (cp:=cp) (fuel:=fuel) T f4 q4 (by omega) hlen (by omega) d3 (by omega)
 have s15:∀ j,j<G1.n→j≠r→j≠H.n+1→G5.get j=G1.get j:=fun j h1 h2 h3=>by rw [s5 j h2,s4 j h2,s3 j h3,s2 j h2]
 have gE5:G5.get (H.n+1+1+1) = .cells [.int 3 0]:=(s15 _ (by omega) (by omega) (by omega)).trans gE1
 have gA5:G5.get (H.n+1+1) = .cells [va]:=(s15 _ (by omega) (by omega) (by omega)).trans gA1
 have gD5:G5.get H.n = .cells [.ptr dp 0]:=(s15 _ (by omega) (by omega) (by omega)).trans gD1
 have gH5:G5.get (H.n+1) = .cells [.int 7 term, .int 3 0, .nils]:=by rw [s5 _ (by omega),s4 _ (by omega)];exact g3
 have w5:=f5.wf
 have f6:Fresh H (G5.put (H.n+1) (.cells [.int 7 term, .int 3 voted, .nils])):=f5.put (by omega) (by omega)
 have s6:∀ j,j≠H.n+1→(G5.put (H.n+1) (.cells [.int 7 term, .int 3 voted, .nils])).get j=G5.get j:=fun j hj=>by rw [Heap.get_put w5 (by omega),if_neg hj]
 have g6:(G5.put (H.n+1) (.cells [.int 7 term, .int 3 voted, .nils])).get (H.n+1) = .cells [.int 7 term, .int 3 voted, .nils]:=by rw [Heap.get_put w5 (by omega),if_pos rfl]
 have n6:(G5.put (H.n+1) (.cells [.int 7 term, .int 3 voted, .nils])).n=G5.n:=Heap.n_put
 generalize hG6:G5.put (H.n+1) (.cells [.int 7 term, .int 3 voted, .nils])=G6 at f6 s6 g6 n6
 have hga6:Gr H G6 va 1 (0+1) ([] ++ [tv (hdT term voted es.length)]):=hga1.same (by omega) fun b o l c s hv hb=>by
  have hx:=(hga1.blk hv).2
  have h1:b≠H.n+1:=fun h=>by rw [h,gH1] at hx;simp [tv] at hx
  have h2:b≠r:=fun h=>by
   obtain ⟨b',y1,_⟩:=hR
   rw [h,y1] at hx;unfold rdBlk at hx;simp [tv] at hx
  rw [s6 b h1,s15 b hb h2 h1]
 have offA:∀ i,i<G0.n→Off va i:=o1
 have S:RdS H G6 dp H.n (H.n+1+1) (H.n+1+1+1) (H.n+1) term voted va .nils (secs (hdT term voted es.length) (es.take 0)) (es.take 0):=by
  refine ⟨f6,by rw [s6 _ (by omega)];exact gD5,by rw [s6 _ (by omega)];exact gA5,by rw [s6 _ (by omega)];exact gE5,g6,by omega,by omega,by omega,by omega,by simpa [secs] using hga6,by rw [List.take_zero];exact Gr.nils,fun i hi=>offA i (by omega),fun i hi=>off0 i,fun b o n c s h=>by cases h⟩
 obtain ⟨G7,va',vl,S7,hL⟩:=read_loop (cp:=cp) (fuel:=fuel) (h0:=hdT term voted es.length) T hc hD ho (by omega) k2 k4 y5 (by omega) (by omega) (by omega) (by omega) (by omega) (by omega) (by omega) (by omega) (by omega) (by omega) es.length 0 G6 va .nils (by omega) S
 have hsl:(secs (hdT term voted es.length) es).length=1+es.length:=by simp [secs];omega
 refine ⟨G7,vl,va',fun d k => ?_,S7.f, ?_,by have:=S7.ga;rwa [hsl] at this⟩
 ·have z1':=fun {k:Go.Ev.K}=>z1 d k
  have z2':=fun {k:Go.Ev.K}=>z2 (d+2) k
  have z4':=fun {k:Go.Ev.K}=>z4 (d+2) k
  have z5':=fun {k:Go.Ev.K}=>z5 (d+2) k
  have zok:=fun {k:Go.Ev.K}=>ok_step (cp:=cp) (fuel:=fuel) T q5 (d+3) k
  have e1:H.n+1<G2.n:=by omega
  have e2:H.n+1<G5.n:=by omega
  have e3:=gt_un (a:=(voted+1) % 18446744073709551616) (b:=3) (by omega) (by omega)
  have e4:=gt_un (a:=es.length) (b:=300) (by omega) (by omega)
  have e5:¬ 3 < (voted+1) % 18446744073709551616:=by omega
  have e6:¬ 300<es.length:=by omega
  have e7:((voted+1) % 18446744073709551616+18446744073709551615) % 18446744073709551616=voted:=by omega
  have gH7:=S7.gH
  have gA7:=S7.gA
  have gE7:=S7.gE
  rw [call_entry T.k27 rfl rfl]
  simp only [go_sem,↓op_app,reduceCtorEq,Nat.reduceAdd,Nat.reduceSub,Nat.reduceMul,Nat.reduceEqDiff,Nat.reduceLT,Nat.reduceDiv,Nat.reduceMod,Nat.reduceLeDiff,↓reduceIte,c27,hw,hG0,z1',z2',gH2,w2,e1,hG3,z4',z5',gE5,zok,e3,e4,e5,e6,Nat.mod_mod,e7,gH5,w5,e2,hG6]
  refine hL d _ fuel _ (by omega) ?_ ?_ ?_ ?_ ?_ _ (fun e' h2 h3 h4 => ?_)
  ·simp only [go_sem,reduceCtorEq,↓reduceIte]
  ·simp only [go_sem,reduceCtorEq,↓reduceIte]
  ·simp only [go_sem,reduceCtorEq,↓reduceIte]
  ·simp only [go_sem,reduceCtorEq,↓reduceIte]
  ·simp only [go_sem,reduceCtorEq,↓reduceIte]
  simp only [go_sem,↓op_app,reduceCtorEq,Nat.reduceAdd,Nat.reduceSub,Nat.reduceMul,Nat.reduceEqDiff,Nat.reduceLT,Nat.reduceDiv,Nat.reduceMod,Nat.reduceLeDiff,↓reduceIte,retF_read,h2,h3,h4,gH7,gA7,gE7]
 ·obtain ⟨q1,q2,⟨q3,q4⟩ | ⟨b,c,s,q3,q4,q5,q6,q7,q8⟩⟩:=S7.gl
  ·exact Or.inl ⟨q3,List.eq_nil_of_length_eq_zero q4⟩
  ·exact Or.inr ⟨b,c,s,q3,q6,q7,q8⟩
end
end Go.Ev
end
section
namespace Go.Ev
section
variable {cp:RC→CodeE} {t:Nat→Option FnE} {fuel:Nat} {H:Heap}
theorem equal_loop {G:Heap} {a b ca cb sa sb n:Nat} {row:List V} (hw:G.wf) (ha:G.get a = .cells row) (hb:G.get b = .cells row) (hl:row.length=n) (hn:n<1000000) (hs:∀ v ∈ row,∃ s,v=tv s) :
  ∀ (m i:Nat),i+m=n → ∀ (ph:Phi) (kx:Nat→KE) (r:Nat) (e:Env),m<r→pget ⟨.i0, .i0, .i0⟩ e = .slice a 0 n ca sa→pget ⟨.i0, .i0, .i1⟩ e = .slice b 0 n cb sb→pget ⟨.i0, .i1, .i4⟩ e = .int 3 n→pget ⟨.i0, .i1, .i5⟩ e = .int 3 i →
   ∀ x:R,(∀ e',kx 1 e' G=x)→evL c28l0 fuel ph kx r e G=x:=by
 intro m
 induction m with
 | zero=>
  intro i hi ph kx r e hr h0 h1 h14 h15 x hT
  obtain ⟨r,rfl⟩:∃ q,r=q+1:=⟨r-1,by omega⟩
  obtain rfl:i=n:=by omega
  have e1:¬ i<i:=by omega
  have e2:nn i:=by unfold nn;omega
  rw [evL_succ]
  simp only [go_sem,↓op_app,reduceCtorEq,Nat.reduceAdd,Nat.reduceSub,Nat.reduceMul,Nat.reduceEqDiff,Nat.reduceLT,Nat.reduceDiv,Nat.reduceMod,Nat.reduceLeDiff,↓reduceIte,c28l0,h0,h1,h14,h15,e1,e2]
  exact hT _
 | succ m ih=>
  intro i hi ph kx r e hr h0 h1 h14 h15 x hT
  obtain ⟨r,rfl⟩:∃ q,r=q+1:=⟨r-1,by omega⟩
  have hlt:i<n:=by omega
  have hg:row[i]? = some row[i]:=List.getElem?_eq_getElem (by omega)
  obtain ⟨s,hv⟩:=hs row[i] (List.getElem_mem _)
  rw [hv] at hg
  have hrd:∀ {id:Nat} {k:V→R},nth id row i k=k (.str s.length (enc s)):=nth_get hg
  have e1:nn i:=by unfold nn;omega
  have e2:nn n:=by unfold nn;omega
  have e3:i<9223372036854775808:=by omega
  have e9:(i+1) % 18446744073709551616=i+1:=by omega
  rw [evL_succ]
  simp only [go_sem,↓op_app,reduceCtorEq,Nat.reduceAdd,Nat.reduceSub,Nat.reduceMul,Nat.reduceEqDiff,Nat.reduceLT,Nat.reduceDiv,Nat.reduceMod,Nat.reduceLeDiff,↓reduceIte,c28l0,h0,h1,h14,h15,hlt,e1,e2,e3,e9,ha,hb,hrd,hw,and_self]
  refine ih (i+1) (by omega) ph kx r _ (by omega) ?_ ?_ ?_ ?_ x hT
  ·simp only [go_sem,reduceCtorEq,↓reduceIte,h0]
  ·simp only [go_sem,reduceCtorEq,↓reduceIte,h1]
  ·simp only [go_sem,reduceCtorEq,↓reduceIte,h14]
  ·simp only [go_sem,reduceCtorEq,↓reduceIte]
theorem equal_call (T:TCode t) {H0 G:Heap} {v w:V} {n:Nat} {row:List V} (hw:G.wf) (h1:Gr H0 G v 1 (n+1) row) (h2:Gr H0 G w 1 (n+1) row) (hn:n<100000) (hs:∀ v ∈ row,∃ s,v=tv s) (hfu:1000000<fuel) (d:Nat) (k:K) :
  callP (evP cp t fuel (d+1)) (.func 56 []) [v,w] G k=k (.bool true) G:=by
 obtain ⟨q1,_,⟨_,q⟩ | ⟨a,ca,sa,rfl,_,_,ga,_,_⟩⟩:=h1
 ·omega
 obtain ⟨_,_,⟨_,q⟩ | ⟨b,cb,sb,rfl,_,_,gb,_,_⟩⟩:=h2
 ·omega
 have e1:n+1<9223372036854775808:=by omega
 rw [call_entry T.k28 rfl rfl]
 simp only [go_sem,↓op_app,reduceCtorEq,Nat.reduceAdd,Nat.reduceSub,Nat.reduceMul,Nat.reduceEqDiff,Nat.reduceLT,Nat.reduceDiv,Nat.reduceMod,Nat.reduceLeDiff,↓reduceIte,c28,e1]
 refine equal_loop (n:=n+1) (ca:=ca) (cb:=cb) (sa:=sa) (sb:=sb) hw ga gb (by omega) (by omega) hs (n+1) 0 (by omega) _ _ fuel _ (by omega) ?_ ?_ ?_ ?_ _ (fun e' => ?_)
 ·simp only [go_sem,reduceCtorEq,↓reduceIte]
 ·simp only [go_sem,reduceCtorEq,↓reduceIte]
 ·simp only [go_sem,reduceCtorEq,↓reduceIte]
 ·simp only [go_sem,reduceCtorEq,↓reduceIte]
 simp only [go_sem,↓op_app,reduceCtorEq,Nat.reduceAdd,Nat.reduceSub,Nat.reduceMul,Nat.reduceEqDiff,Nat.reduceLT,Nat.reduceDiv,Nat.reduceMod,Nat.reduceLeDiff,↓reduceIte]
theorem secs_tv (h0:List UInt8) (es:List Ent):∀ v ∈ secs h0 es,∃ s,v=tv s:=by
 intro v hv
 unfold secs at hv
 rcases List.mem_cons.1 hv with rfl | h
 ·exact ⟨_,rfl⟩
 ·obtain ⟨e,_,rfl⟩:=List.mem_map.1 h;exact ⟨_,rfl⟩
theorem open_call (T:TCode t) (hc:HasClone t) {pk:List UInt8→List (List UInt8)} {unpk:List (List UInt8)→Option (List UInt8)} (F:FrameOK pk unpk) (hu:t 46=some (.nat (nUnpack unpk)))
  {dp a n term voted:Nat} {A:AD} {O:Nat→Prop} {us:List Wr} {es:List Ent} (hD:Disk H dp A O) (C:CanRecover A pk a n us) (h0:(A.recover n us).2=0) (ho:(A.recover n us).1.off=false) (K:HasK (A.recover n us).1 term voted es) (Y:OkK term voted es) (hm:mayK term voted es=true) (hfu:1000000<fuel) :
  ∃ H' O' kp vl,(∀ (d:Nat) (k:Go.Ev.K),callP (evP cp t fuel (d+8)) (.func 24 []) [.ptr dp 0] H k=k (.tup [.ptr kp 0, .int 3 0]) H')∧Step H O H' O'∧Disk H' dp (A.recover n us).1 O'∧KAt H' kp term voted vl dp false∧LogC H' vl es (fun b=>O' b∨b=kp)∧(∀ b,O' b→b≠kp)∧H.n≤kp∧LogN H H' vl es:=by
 obtain ⟨G1,O1,z1,s1,D1⟩:=recover_call (cp:=cp) (fuel:=fuel) T hc F hu hD C (by omega)
 rw [h0] at z1
 generalize (A.recover n us).1=B at ho K D1 ⊢
 have Y':=Y
 obtain ⟨y1,y2,y3,y4,y5⟩:=Y'
 obtain ⟨G2,vl,va,z2,f2,hvl,hva⟩:=kread_call (cp:=cp) (fuel:=fuel) T hc D1 ho K Y (by omega)
 have hlt:=D1.lt
 have hlc:LogC G2 vl es O1:=hvl.at_ (fun e he=>(y5 e he).1) hlt
 have w2:=f2.wf
 have f3:Fresh G2 ((G2.new (.cells [.int 7 0, .int 3 0, .nils])).put G2.n (.cells [.int 7 term, .int 3 voted,vl])):=(Fresh.new w2).put (Nat.le_refl _) (by rw [Heap.n_new];omega)
 have g3:((G2.new (.cells [.int 7 0, .int 3 0, .nils])).put G2.n (.cells [.int 7 term, .int 3 voted,vl])).get G2.n = .cells [.int 7 term, .int 3 voted,vl]:=by rw [Heap.get_put (by rw [Heap.wf_new];exact w2) (by rw [Heap.n_new];omega),if_pos rfl]
 have n3:G2.n < ((G2.new (.cells [.int 7 0, .int 3 0, .nils])).put G2.n (.cells [.int 7 term, .int 3 voted,vl])).n:=by rw [Heap.n_put,Heap.n_new];omega
 generalize hG3:(G2.new (.cells [.int 7 0, .int 3 0, .nils])).put G2.n (.cells [.int 7 term, .int 3 voted,vl])=G3 at f3 g3 n3
 have hl3:=hlc.fresh f3
 obtain ⟨G4,z4,f4⟩:=may_k_call (cp:=cp) (fuel:=fuel) (term:=term) (voted:=voted) T f3.wf hl3.at_ (by omega) (by omega)
 rw [hm] at z4
 have hl4:=hl3.fresh f4
 obtain ⟨G5,vs,z5,f5,hvs⟩:=sectors_call (cp:=cp) (fuel:=fuel) (term:=term) (voted:=voted) T f4.wf y1 y2 hl4.at_ (by omega) (fun e he=>by have:=(y5 e he).2;omega) (by omega)
 have hva5:=((hva.fresh f3).fresh f4).fresh f5
 have z6:=fun {d:Nat} {k:Go.Ev.K}=>equal_call (cp:=cp) (fuel:=fuel) (n:=es.length) T f5.wf (by have:=hva5;rwa [Nat.add_comm] at this) (by
  have h:Gr G1 G5 vs 1 (1+es.length) (secs (hdT term voted es.length) es):=by
   obtain ⟨p1,p2,p3 | ⟨b,c,s,p3,p4,p5,p6,p7,p8⟩⟩:=hvs
   ·exact ⟨p1,p2,Or.inl p3⟩
   ·exact ⟨p1,p2,Or.inr ⟨b,c,s,p3,p4,p5,p6,by have:=f2.n;have:=f3.n;have:=f4.n;omega,p8⟩⟩
  rwa [Nat.add_comm] at h) (by omega) (secs_tv _ _) hfu d k
 have g4:G4.get G2.n = .cells [.int 7 term, .int 3 voted,vl]:=(f4.same _ n3).trans g3
 have g5:G5.get G2.n = .cells [.int 7 term, .int 3 voted,vl]:=(f5.same _ (by have:=f4.n;omega)).trans g4
 have w5:=f5.wf
 have f6:Fresh G5 (G5.new (.cells [.int 7 term, .int 3 voted,vl, .ptr dp 0, .bool false])):=Fresh.new w5
 have f26:=(((f2.trans f3).trans f4).trans f5).trans f6
 refine ⟨G5.new (.cells [.int 7 term, .int 3 voted,vl, .ptr dp 0, .bool false]),O1,G5.n,vl,fun d k => ?_,s1.trans f26.step,D1.fresh f26,⟨by rw [Heap.get_new w5,if_pos rfl],by rw [Heap.n_new];omega⟩,((hl4.fresh f5).weak fun b hb h=>h.elim id fun e=>by omega).fresh f6,fun b hb h => ?_, ?_,(((((hvl.older s1.n).fresh f3).fresh f4).fresh f5).fresh f6)⟩
 ·have hi:=fun {id:Nat} {k:R}=>is1_of hlc.at_.one (id:=id) (k:=k)
  have z1':=fun {k:Go.Ev.K}=>z1 d k
  have z2':=fun {k:Go.Ev.K}=>z2 (d+2) k
  have z4':=fun {k:Go.Ev.K}=>z4 (d+2) k
  have z5':=fun {k:Go.Ev.K}=>z5 (d+2) k
  have z6':=fun {k:Go.Ev.K}=>z6 (d:=d+6) (k:=k)
  have e8:G2.n<G2.n+1:=by omega
  rw [call_entry T.k12 rfl rfl]
  simp only [go_sem,↓op_app,reduceCtorEq,Nat.reduceAdd,Nat.reduceSub,Nat.reduceMul,Nat.reduceEqDiff,Nat.reduceLT,Nat.reduceDiv,Nat.reduceMod,Nat.reduceLeDiff,↓reduceIte,c12,z1',z2',hi,w2,e8,hG3,g3,z4',g4,z5',z6',g5,w5]
 ·have:=hlt b hb
  have:=f2.n;have:=f3.n;have:=f4.n;have:=f5.n
  omega
 ·have:=s1.n;have:=f2.n;have:=f3.n;have:=f4.n;have:=f5.n
  omega
end
end Go.Ev
end
section
namespace Go.Ev
def difW (A:AD) (ss:List (List UInt8)):Nat→List Wr
 | 0 => []
 | i+1=>difW A ss i ++ (if A.read (145+i)=tx (ss.getD i []) then [] else [(145+i,tx (ss.getD i []))])
theorem difW_len (A:AD) (ss:List (List UInt8)):∀ i,(difW A ss i).length≤i
 | 0=>Nat.le_refl _
 | i+1=>by
  have:=difW_len A ss i
  simp only [difW,List.length_append]
  split <;> simp <;> omega
theorem difW_mem {A:AD} {ss:List (List UInt8)}:∀ {i:Nat} {w:Wr},w ∈ difW A ss i → ∃ j,j<i∧w=(145+j,tx (ss.getD j []))
 | 0,w,h=>by cases h
 | i+1,w,h=>by
  simp only [difW] at h
  rcases List.mem_append.1 h with h | h
  ·obtain ⟨j,hj,e⟩:=difW_mem h;exact ⟨j,by omega,e⟩
  ·split at h
   ·cases h
   ·exact ⟨i,by omega,List.mem_singleton.1 h⟩
theorem difW_nodup {A:AD} {ss:List (List UInt8)}:∀ i,((difW A ss i).map (·.1)).Nodup
 | 0=>List.nodup_nil
 | i+1=>by
  simp only [difW,List.map_append]
  refine List.nodup_append.2 ⟨difW_nodup i,by split <;> simp,fun x hx y hy => ?_⟩
  obtain ⟨w,hw,rfl⟩:=List.mem_map.1 hx
  obtain ⟨j,hj,rfl⟩:=difW_mem hw
  split at hy
  ·cases hy
  ·simp only [List.map_cons,List.map_nil,List.mem_singleton] at hy
   subst hy
   show 145+j≠145+i
   omega
theorem difW_in {A:AD} {ss:List (List UInt8)}:∀ {i j:Nat},j<i→A.read (145+j)≠tx (ss.getD j [])→((145+j,tx (ss.getD j [])):Wr) ∈ difW A ss i
 | 0,j,h,_=>by omega
 | i+1,j,h,hn=>by
  simp only [difW]
  by_cases hj:j=i
  ·subst hj
   rw [if_neg hn]
   exact List.mem_append_right _ (List.mem_singleton.2 rfl)
  ·exact List.mem_append_left _ (difW_in (by omega) hn)
theorem difW_laid {A B:AD} {ss:List (List UInt8)} {n:Nat} (hB:∀ k,145≤k→find B.es k=find (laid A.es (difW A ss n)) k) {j:Nat} (hj:j<n):B.read (145+j)=tx (ss.getD j []):=by
 rw [AD.read,hB _ (by omega)]
 by_cases h:A.read (145+j)=tx (ss.getD j [])
 ·have hno:145+j ∉ (difW A ss n).map (·.1):=fun hm=>by
   obtain ⟨w,hw,e⟩:=List.mem_map.1 hm
   have:∀ m,((145+j,tx (ss.getD j [])):Wr) ∉ difW A ss m:=by
    intro m
    induction m with
    | zero=>intro h;cases h
    | succ m ih=>
     intro hx
     simp only [difW] at hx
     rcases List.mem_append.1 hx with hx | hx
     ·exact ih hx
     ·split at hx
      ·cases hx
      ·rename_i hne
       have e1:=List.mem_singleton.1 hx
       have e2:145+j=145+m:=congrArg (·.1) e1
       have e3:j=m:=by omega
       subst e3
       exact hne h
   obtain ⟨i,hi,rfl⟩:=difW_mem hw
   have e4:i=j:=by have:145+i=145+j:=e;omega
   subst e4
   exact this n hw
  rw [find_laid_not hno]
  exact h
 ·rw [show find (laid A.es (difW A ss n)) (145+j)=some (tx (ss.getD j [])) from find_laid_mem (difW_nodup n) (difW_in hj h)]
  rfl
theorem mayP_of {len:Nat}:∀ {ws:List Wr} {seen:List Nat},(∀ w ∈ ws,goodW len w∧w.1 ∉ seen)→(ws.map (·.1)).Nodup→mayP len seen ws=true
 | [],_,_,_=>rfl
 | w :: ws,seen,h,hn=>by
  rw [List.map_cons,List.nodup_cons] at hn
  simp only [mayP]
  rw [if_pos (h w (List.mem_cons_self ..))]
  refine mayP_of (fun v hv=>⟨(h v (List.mem_cons_of_mem _ hv)).1,fun hm => ?_⟩) hn.2
  rcases List.mem_append.1 hm with hm | hm
  ·exact (h v (List.mem_cons_of_mem _ hv)).2 hm
  ·exact hn.1 (List.mem_map.2 ⟨v,hv,List.mem_singleton.1 hm⟩)
section
variable {cp:RC→CodeE} {t:Nat→Option FnE} {fuel:Nat} {H:Heap}
set_option maxHeartbeats 1000000 in
theorem save_loop (T:TCode t) (hc:HasClone t) {kp dp term voted:Nat} {vl vs:V} {lost:Bool} {A:AD} {O:Nat→Prop} {ss:List (List UInt8)} {H0:Heap} (hD:Disk H dp A O) (ho:A.off=false) (hK:KAt H kp term voted vl dp lost) (hvs:Gr H0 H vs 1 ss.length (ss.map tv)) (hN:ss.length≤301) (hA:446≤A.len) (hA2:A.len≤1024) {v3:V} :
  ∀ (m i:Nat) (G:Heap) (vw:V),i+m=ss.length→Fresh H G→Gr H G vw 2 (difW A ss i).length (encW (difW A ss i)) →
  ∃ G' vw',Fresh H G'∧Gr H G' vw' 2 (difW A ss ss.length).length (encW (difW A ss ss.length)) ∧ ∀ (d:Nat) (kx:Nat→KE) (r:Nat) (e:Env),m<r→pget ⟨.i0, .i0, .i0⟩ e = .ptr kp 0→pget ⟨.i0, .i0, .i3⟩ e=v3→pget ⟨.i0, .i0, .i5⟩ e=vw→pget ⟨.i0, .i5, .i3⟩ e=vs→pget ⟨.i0, .i5, .i4⟩ e = .int 3 ss.length→pget ⟨.i0, .i5, .i5⟩ e = .int 3 i →
   ∀ x:R,(∀ e',pget ⟨.i0, .i0, .i0⟩ e' = .ptr kp 0→pget ⟨.i0, .i0, .i3⟩ e'=v3→pget ⟨.i0, .i0, .i5⟩ e'=vw'→kx 1 e' G'=x) →
   evL c7l0 fuel (evP cp t fuel (d+3)) kx r e G=x:=by
 intro m
 induction m with
 | zero=>
  intro i G vw hi f hg
  obtain rfl:i=ss.length:=by omega
  refine ⟨G,vw,f,hg,fun d kx r e hr h0 h3 h5 h53 h54 h55 x hT => ?_⟩
  obtain ⟨r,rfl⟩:∃ q,r=q+1:=⟨r-1,by omega⟩
  have e1:¬ ss.length<ss.length:=by omega
  have e2:nn ss.length:=by unfold nn;omega
  rw [evL_succ]
  simp only [go_sem,↓op_app,reduceCtorEq,Nat.reduceAdd,Nat.reduceSub,Nat.reduceMul,Nat.reduceEqDiff,Nat.reduceLT,Nat.reduceDiv,Nat.reduceMod,Nat.reduceLeDiff,↓reduceIte,c7l0,h0,h3,h5,h53,h54,h55,e1,e2]
  exact hT _ (by simp only [go_sem,reduceCtorEq,↓reduceIte,h0]) (by simp only [go_sem,reduceCtorEq,↓reduceIte,h3]) (by simp only [go_sem,reduceCtorEq,↓reduceIte,h5])
 | succ m ih=>
  intro i G vw hi f hg
  have hlt:i<ss.length:=by omega
  have hget:ss[i]? = some ss[i]:=List.getElem?_eq_getElem hlt
  have hgd:ss.getD i []=ss[i]:=by rw [List.getD_eq_getElem?_getD,hget];rfl
  have hdif:difW A ss (i+1)=difW A ss i ++ (if A.read (145+i)=tx ss[i] then [] else [(145+i,tx ss[i])]):=by rw [← hgd];rfl
  generalize ss[i]=sx at hget hdif
  have hrow:(ss.map tv)[i]? = some (tv sx):=by rw [List.getElem?_map,hget];rfl
  obtain ⟨p1,p2,⟨p3,p4⟩ | ⟨bs,cs,zs,p3,p4,p5,p6,p7,p8⟩⟩:=hvs
  ·omega
  have gS:G.get bs = .cells (ss.map tv):=(f.same bs p8).trans p6
  have hrd:∀ {id:Nat} {k:V→R},nth id (ss.map tv) i k=k (.str sx.length (enc sx)):=nth_get hrow
  have gK:=(hK.fresh f).get
  obtain ⟨G1,z1,f1⟩:=read_all (cp:=cp) (fuel:=fuel) (a:=145+i) (T.disk4 hc) (hD.fresh f) ho (by omega)
  have w1:=f1.wf
  have e1:nn i:=by unfold nn;omega
  have e2:nn ss.length:=by unfold nn;omega
  have e3:i<9223372036854775808:=by omega
  have e9:(i+1) % 18446744073709551616=i+1:=by omega
  have e10:(145+i) % 18446744073709551616=145+i:=by omega
  have z1':=fun {d:Nat} {k:K}=>z1 d k
  generalize hq:A.read (145+i)=q at z1' hdif
  by_cases hqs:q=tx sx
  ·rw [if_pos hqs,List.append_nil] at hdif
   obtain ⟨G',vw',f',hg',hL⟩:=ih (i+1) G1 vw (by omega) (f.trans f1) (by rw [hdif];exact hg.fresh f1)
   refine ⟨G',vw',f',hg',fun d kx r e hr h0 h3 h5 h53 h54 h55 x hT => ?_⟩
   obtain ⟨r,rfl⟩:∃ q,r=q+1:=⟨r-1,by omega⟩
   rw [hqs] at z1'
   simp only [sv,tx] at z1'
   subst p3
   rw [evL_succ]
   simp only [go_sem,↓op_app,reduceCtorEq,Nat.reduceAdd,Nat.reduceSub,Nat.reduceMul,Nat.reduceEqDiff,Nat.reduceLT,Nat.reduceDiv,Nat.reduceMod,Nat.reduceLeDiff,↓reduceIte,c7l0,h0,h3,h5,h53,h54,h55,hlt,e1,e2,e3,e9,e10,gS,hrd,gK,z1',and_self]
   refine hL d kx r _ (by omega) ?_ ?_ ?_ ?_ ?_ ?_ x hT
   ·simp only [go_sem,reduceCtorEq,↓reduceIte,h0]
   ·simp only [go_sem,reduceCtorEq,↓reduceIte,h3]
   ·simp only [go_sem,reduceCtorEq,↓reduceIte,h5]
   ·simp only [go_sem,reduceCtorEq,↓reduceIte,h53]
   ·simp only [go_sem,reduceCtorEq,↓reduceIte,h54]
   ·simp only [go_sem,reduceCtorEq,↓reduceIte]
  ·rw [if_neg hqs] at hdif
   have f2:Fresh G1 (G1.new (.cells [.int 3 (145+i),tv sx])):=Fresh.new w1
   have g2:(G1.new (.cells [.int 3 (145+i),tv sx])).get G1.n = .cells [.int 3 (145+i),tv sx]:=by rw [Heap.get_new w1,if_pos rfl]
   obtain ⟨v',G3,hop,hg3,f3,_,_,_⟩:=Gr.app (cx:=2) (sx:=0) ((f.trans f1).trans f2) ((hg.fresh f1).fresh f2) g2 rfl (by simp [tv,V.one]) (by have:=difW_len A ss i;omega)
   have hl1:(difW A ss (i+1)).length=(difW A ss i).length+1:=by rw [hdif];simp
   have hl2:encW (difW A ss (i+1))=encW (difW A ss i) ++ [.int 3 (145+i),tv sx]:=by rw [hdif,encW_append];rfl
   obtain ⟨G',vw',f',hg',hL⟩:=ih (i+1) G3 v' (by omega) f3 (by rw [hl1,hl2];exact hg3)
   refine ⟨G',vw',f',hg',fun d kx r e hr h0 h3 h5 h53 h54 h55 x hT => ?_⟩
   obtain ⟨r,rfl⟩:∃ q,r=q+1:=⟨r-1,by omega⟩
   have hne:(q.1=sx.length∧q.2=enc sx)=False:=eq_false fun h=>hqs (Prod.ext h.1 h.2)
   simp only [sv] at z1'
   simp only [tv] at hop
   subst p3
   rw [evL_succ]
   simp only [go_sem,reduceCtorEq,Nat.reduceAdd,Nat.reduceSub,Nat.reduceMul,Nat.reduceEqDiff,Nat.reduceLT,Nat.reduceDiv,Nat.reduceMod,Nat.reduceLeDiff,↓reduceIte,c7l0,h0,h3,h5,h53,h54,h55,hlt,e1,e2,e3,e9,e10,gS,hrd,gK,z1',hne,w1,↓hop]
   refine hL d kx r _ (by omega) ?_ ?_ ?_ ?_ ?_ ?_ x hT
   ·simp only [go_sem,reduceCtorEq,↓reduceIte,h0]
   ·simp only [go_sem,reduceCtorEq,↓reduceIte,h3]
   ·simp only [go_sem,reduceCtorEq,↓reduceIte]
   ·simp only [go_sem,reduceCtorEq,↓reduceIte,h53]
   ·simp only [go_sem,reduceCtorEq,↓reduceIte,h54]
   ·simp only [go_sem,reduceCtorEq,↓reduceIte]
end
end Go.Ev
end
section
namespace Go.Ev
def With (O:Nat→Prop) (kp:Nat):Nat→Prop:=fun b=>O b∨b=kp
theorem Step.own_put {H:Heap} {P:Nat→Prop} {kp:Nat} {x:Blk} (hw:H.wf) (hk:kp<H.n) (hp:P kp):Step H P (H.put kp x) P:=
 ⟨by rw [Heap.wf_put];exact hw,by rw [Heap.n_put];exact Nat.le_refl _,fun b hb ho=>⟨by rw [Heap.get_put hw hk,if_neg (fun e=>ho (by rw [e];exact hp))],ho⟩,fun lo h1 h2 h3=>⟨Heap.lo_put h1 (h3 kp hp),h3⟩⟩
theorem Step.with_ {H H':Heap} {O O':Nat→Prop} {kp:Nat} (s:Step H O H' O'):Step H (With O kp) H' (With O' kp):=
 ⟨s.wf,s.n,fun b hb ho=>⟨(s.same b hb fun h=>ho (Or.inl h)).1,fun h=>h.elim (fun h=>(s.same b hb fun h=>ho (Or.inl h)).2 h) fun h=>ho (Or.inr h)⟩,fun lo h1 h2 h3=>⟨(s.lo lo h1 h2 fun b hb=>h3 b (Or.inl hb)).1,fun b hb=>hb.elim (fun hb=>(s.lo lo h1 h2 fun b hb=>h3 b (Or.inl hb)).2 b hb) fun hb=>h3 b (Or.inr hb)⟩⟩
def ssOf (term voted:Nat) (es:List Ent):List (List UInt8):=hdT term voted es.length :: es.map enT
theorem ssOf_length (term voted:Nat) (es:List Ent):(ssOf term voted es).length=1+es.length:=by simp [ssOf];omega
theorem ssOf_secs (term voted:Nat) (es:List Ent):(ssOf term voted es).map tv=secs (hdT term voted es.length) es:=by simp [ssOf,secs]
theorem ssOf_has {A:AD} {term voted:Nat} {es:List Ent} (lo:446≤A.len) (hi:A.len≤1024) (h:∀ j,j<1+es.length→A.read (145+j)=tx ((ssOf term voted es).getD j [])):HasK A term voted es:=by
 refine ⟨lo,hi,h 0 (by omega),fun i e he => ?_⟩
 have hlt:=(List.getElem?_eq_some_iff.1 he).1
 have:=h (i+1) (by omega)
 rw [show 145+(i+1)=146+i by omega] at this
 rw [this]
 simp [ssOf,he]
theorem ssOf_32 {term voted:Nat} {es:List Ent} (hk:∀ e ∈ es,okE e∧e.2.1≤3):∀ s ∈ ssOf term voted es,s.length=32:=by
 intro s hs
 rcases List.mem_cons.1 hs with rfl | h
 ·exact sec_length (hd32 _ _ _)
 ·obtain ⟨e,he,rfl⟩:=List.mem_map.1 h
  exact sec_length (en32 (by have:=(hk e he).2;omega))
structure KS (pk:List UInt8→List (List UInt8)) (H0 H:Heap) (dp kp:Nat) (A:AD) (O:Nat→Prop) (term voted:Nat) (vl:V) (es:List Ent):Prop where
 fresh:Fresh H0 H
 disk:Disk H dp A O
 own:∀ b,O b→H0.n≤b
 jd:∃ a n us,JD pk A a n us
 fuse:A.fuse=0
 len:A.len=446
 room:A.room=446
 kpo:H0.n≤kp
 kpn:¬ O kp
 kat:KAt H kp term voted vl dp false
 log:LogC H vl es (With O kp)
 has:HasK A term voted es
 okk:OkK term voted es
section
variable {cp:RC→CodeE} {t:Nat→Option FnE} {fuel:Nat} {H:Heap} {pk:List UInt8→List (List UInt8)} {unpk:List (List UInt8)→Option (List UInt8)}
end
end Go.Ev
end
section
namespace Go.Ev
def F0:AD:=⟨446,446,0,false,[],[]⟩
def W0:List Wr:=[(145,tx (hdT 0 18446744073709551615 0))]
theorem W0_may:mayP 446 [] W0=true:=mayP_of (fun w hw=>by
 rw [List.mem_singleton.1 hw]
 exact ⟨⟨by show 145≤145;omega,by show 145<446;omega,sec_length (hd32 _ _ _)⟩,fun h=>(by cases h)⟩) (by simp [W0])
theorem may0:mayK 0 18446744073709551615 []=true:=by
 have h1:evCF (.lt 9223372036854775808 18446744073709551616) 18446744073709551615 18446744073709551615=false:=by rfl
 have h2:evCF (.ge 9223372036854775808 18446744073709551616) 18446744073709551615 3=false:=by rfl
 have hc:checkE []=0:=by
  unfold checkE
  rw [if_neg (by simp),if_neg (by simp [upE])]
 unfold mayK
 rw [if_pos hc,if_neg (by rw [h1];exact Bool.false_ne_true),if_neg (by rw [h2];exact Bool.false_ne_true),if_pos (show ([]:List Ent).length=0 from rfl)]
theorem ok0:OkK 0 18446744073709551615 []:=⟨by omega,by omega,by omega,by simp,fun e h=>(by cases h)⟩
section
variable {cp:RC→CodeE} {t:Nat→Option FnE} {fuel:Nat} {H:Heap} {pk:List UInt8→List (List UInt8)} {unpk:List (List UInt8)→Option (List UInt8)}
theorem kformat_call (T:TCode t) (hc:HasClone t) (F:FrameOK pk unpk) (hp:t 60=some (.nat (nPack pk))) {H0:Heap} {dp:Nat} {O:Nat→Prop} (fr:Fresh H0 H) (hD:Disk H dp F0 O) (own:∀ b,O b→H0.n≤b) (hfu:1000000<fuel) :
  ∃ H' A' O',(∀ (d:Nat) (k:K),callP (evP cp t fuel (d+8)) (.func 28 []) [.ptr dp 0] H k=k (.int 3 0) H')∧Fresh H0 H'∧Disk H' dp A' O'∧(∀ b,O' b→H0.n≤b)∧(∃ a n us,JD pk A' a n us)∧A'.fuse=0∧A'.len=446∧A'.room=446∧HasK A' 0 18446744073709551615 [] ∧ ∀ i,A'.read (146+i)=(32,0):=by
 obtain ⟨G1,O1,z1,s1,D1⟩:=format_call (cp:=cp) (fuel:=fuel) T hc hD rfl (by show 145<446;omega) (by show 446≤1024;omega) (by show 0<_;omega) (by show 0<_;omega) (Or.inr (by show 0<446;omega)) (by omega)
 obtain ⟨J,j2,j3,j4⟩:=JD.start (pk:=pk) (A:=F0) (by show 145<446;omega) (by show 446≤1024;omega) rfl EsOK.nil rfl
 rw [j3] at z1
 obtain ⟨b1,b2,b3,b4⟩:=j4
 generalize (F0.runs [[(0,tx (hdr 0 0))]]).1=B at D1 J j2 b1 b2 b3 b4
 have hl:B.len=446:=b1
 have hr:B.room=446:=b2
 obtain ⟨fr1,own1⟩:=fr.own s1 own
 have w1:=fr1.wf
 have f2:Fresh G1 G1:=Fresh.refl w1
 obtain ⟨G2,z2,f3⟩:=khead_call (cp:=cp) (fuel:=fuel) (H:=G1) (term:=0) (voted:=18446744073709551615) (v := .nils) (es:=[]) (O:=fun _=>False) T w1 (by omega) (by omega) (Or.inl ⟨Or.inl rfl,rfl⟩) (by simp) (by omega)
 have w2:=f3.wf
 have f4:Fresh G2 (G2.new (.cells (encW W0))):=Fresh.new w2
 have g4:(G2.new (.cells (encW W0))).get G2.n = .cells (encW W0):=by rw [Heap.get_new w2,if_pos rfl]
 have D4:=(D1.fresh f3).fresh f4
 have hok:∀ w ∈ W0,okT w.2:=fun w hw=>by rw [List.mem_singleton.1 hw];exact enc_lt _
 obtain ⟨G5,O5,z5,s5,D5⟩:=commit_call (cp:=cp) (fuel:=fuel) (v := .slice G2.n 0 1 2 0) (ws:=W0) T hc F hp D4 J.rec_.can (Or.inr ⟨G2.n,2,0,rfl,g4,by rw [Heap.n_new];omega,fun hb=>by have:=D1.lt _ hb;have:=f3.n;omega⟩) (fun w hw=>⟨by rw [List.mem_singleton.1 hw];show 145<_;omega,by rw [List.mem_singleton.1 hw];show (hdT _ _ _).length<_;rw [show (hdT 0 18446744073709551615 0).length=32 from sec_length (hd32 _ _ _)];omega,hok w hw⟩) (by show 1<10000;omega) (by omega)
 have hcode:=J.code F j2 (by omega) hok
 have h0:(B.commit pk 0 W0).2=0:=by
  rw [hcode];unfold Ev.code
  rw [if_neg (by show ¬ 1=0;omega),if_neg (by show ¬ 60<1;omega),if_neg (by rw [hl,W0_may];exact Bool.noConfusion)]
 have hdid:=J.commit F j2 hok
 rw [h0] at z5
 obtain ⟨fr5,own5⟩:=((fr1.trans f3).trans f4).own s5 own1
 refine ⟨G5,_,O5,fun d k => ?_,fr5,D5,own5,hdid.jd,hdid.fuse,hdid.len.trans hl,hdid.room.trans hr,⟨by rw [hdid.len,hl];omega,by rw [hdid.len,hl];omega, ?_,fun i e h=>(by cases h)⟩,fun i => ?_⟩
 ·have hL:∀ {d:Nat} {k:K},callP (evP cp t fuel (d+1)) (.func 58 []) [.ptr dp 0] H k=k (.int 3 446) H:=fun {d k}=>by rw [len_all (T.disk4 hc) hD];rfl
  have n1:nn 446:=by unfold nn;omega
  have e1:¬ (446:Nat)<446:=by omega
  have z1':=fun {k:K}=>z1 d k
  have z2':=fun {k:K}=>z2 (d+3) k
  have z5':=fun {k:K}=>z5 d k
  have hG4:G2.new (.cells [.int 3 145, .str (hdT 0 18446744073709551615 0).length (enc (hdT 0 18446744073709551615 0))])=G2.new (.cells (encW W0)):=rfl
  simp only [tv,List.length_nil] at z2'
  rw [call_entry T.k14 rfl rfl]
  simp only [go_sem,↓op_app,reduceCtorEq,Nat.reduceAdd,Nat.reduceSub,Nat.reduceMul,Nat.reduceEqDiff,Nat.reduceLT,Nat.reduceDiv,Nat.reduceMod,Nat.reduceLeDiff,↓reduceIte,c14,hL,n1,e1,z1',z2',w2,hG4,z5']
 ·have:=(hdid.yes h0).1 145 (by omega)
  rw [AD.read,this]
  show (find (updS B.es 145 (tx (hdT 0 18446744073709551615 0))) 145).getD (32,0)=_
  rw [find_updS,if_pos rfl]
  rfl
 ·have:=(hdid.yes h0).1 (146+i) (by omega)
  rw [AD.read,this]
  show (find (updS B.es 145 (tx (hdT 0 18446744073709551615 0))) (146+i)).getD (32,0)=_
  rw [find_updS,if_neg (by omega),b4,find_updS,if_neg (by omega)]
  rfl
theorem made_call (T:TCode t) (hc:HasClone t) (F:FrameOK pk unpk) (hp:t 60=some (.nat (nPack pk))) (hu:t 46=some (.nat (nUnpack unpk))) (hw:H.wf) (hfu:1000000<fuel) :
  ∃ H' dp kp A O vl,(∀ (d:Nat) (k:Go.Ev.K),callP (evP cp t fuel (d+9)) (.func 10 []) [] H k=k (.tup [.ptr dp 0, .ptr kp 0]) H')∧KS pk H H' dp kp A O 0 18446744073709551615 vl [] ∧ ∀ i,A.read (146+i)=(32,0):=by
 obtain ⟨G1,dp,O1,z1,D1,f1,o1⟩:=new_all (cp:=cp) (fuel:=fuel) (n:=446) (r:=446) (T.disk4 hc) hw (by omega) (by omega) (by unfold nn;omega)
 obtain ⟨G2,A2,O2,z2,f2,D2,o2,⟨a,n,us,J⟩,j2,j3,j4,hK,hZ⟩:=kformat_call (cp:=cp) (fuel:=fuel) T hc F hp f1 D1 o1 hfu
 obtain ⟨r1,r2,hrz,r3,r4,r5⟩:=J.recovered j2
 have hK2:HasK (A2.recover n us).1 0 18446744073709551615 []:=⟨by rw [r3];exact hK.lo,by rw [r3];exact hK.hi,by rw [AD.read,r5];exact hK.head,fun i e h=>(by cases h)⟩
 obtain ⟨G3,O3,kp,vl,z3,s3,D3,kat,hlc,hne,hkp,_⟩:=open_call (cp:=cp) (fuel:=fuel) T hc F hu D2 J.rec_ r1 r2.off hK2 ok0 may0 hfu
 obtain ⟨f3,o3⟩:=f2.own s3 o2
 refine ⟨G3,dp,kp,_,O3,vl,fun d k => ?_,⟨f3,D3,o3,⟨_,_,_,r2⟩,hrz,r3.trans j3,r4.trans j4,Nat.le_trans f2.n hkp,fun h=>hne kp h rfl,kat,hlc,hK2,ok0⟩,fun i=>by rw [AD.read,r5];exact hZ i⟩
 have z1':=fun {k:Go.Ev.K}=>z1 (d+7) k
 have z2':=fun {k:Go.Ev.K}=>z2 d k
 have z3':=fun {k:Go.Ev.K}=>z3 d k
 rw [call_entry T.k5 rfl rfl]
 simp only [go_sem,↓op_app,reduceCtorEq,Nat.reduceAdd,Nat.reduceSub,Nat.reduceMul,Nat.reduceEqDiff,Nat.reduceLT,Nat.reduceDiv,Nat.reduceMod,Nat.reduceLeDiff,↓reduceIte,c5,z1',z2',z3']
end
end Go.Ev
end

