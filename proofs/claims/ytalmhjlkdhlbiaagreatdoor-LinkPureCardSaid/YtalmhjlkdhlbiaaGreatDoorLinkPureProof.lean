/- THE LAW LinkPure returns true: asking and serving change nothing. No condition. -/
import Derived.Test.YtalmhjlkdhlbiaaGreatDoorVL
import Derived.Test.YtalmhjlkdhlbiaaGreatDoorEvFrame
import Derived.Test.YtalmhjlkdhlbiaaGreatDoorEvCrc2
import Derived.Test.YtalmhjlkdhlbiaaGreatDoorEvJoin2
import Derived.Test.YtalmhjlkdhlbiaaGreatDoorEvInsert
import Derived.Test.YtalmhjlkdhlbiaaGreatDoorCards
import Derived.Test.YtalmhjlkdhlbiaaGreatDoorTie
import Derived.ProofKit
import Derived.OpenShut
import Derived.ShutString
import Derived.Carry
import Derived.LaidMore
import Derived.Lay
import Derived.SevenTiedAt
import Derived.Stop.Joined
open Nat renaming beq → YL
set_option linter.unusedVariables false
set_option linter.unusedSimpArgs false
set_option linter.unusedSectionVars false
namespace Go.Proofs.YtalmhjlkdhlbiaaGreatDoor.linkPure
open Go.ChangeShapes Go.WideShapes Go.ChangeAt Go.RowKit Go.Ev
theorem own:ownKnob Tryz.prog.godebug=none:=by kernel_rfl
theorem laidOut:laidOutB Tryz.prog=true:=by kernel_rfl
noncomputable def abT:Nat->Option cW:=λf=>Bool.rec (motive:=λ_=>Option cW) (Bool.rec (motive:=λ_=>Option cW) (Bool.rec (motive:=λ_=>Option cW) ((Tryz.prog.funcs[f]?).bind (je Tryz.prog f)) (some (.nat Oz)) (YL f 176)) (some (.nat GF)) (YL f 155)) (some (.nat Bd)) (YL f 27)
theorem Y6:gZ Tryz.prog abT:=gZ.nat Og.nat (gZ.nat Xy.nat (gZ.nat Kk (gZ.base (by kernel_rfl))))
set_option maxRecDepth 100000 in
theorem run:@Eq Nat (aQ (aZ Tryz.prog) abT 100000 100 (.func (2*7) []) [] H0 isTrue) (nat_lit 1):=by kernel_rfl
set_option maxRecDepth 100000 in
theorem ran (w:World):Calls Tryz.prog 7 #[] w λe w'=>e = .returned (.bool true)/\Below w.heap.size w w':=
 known (by kernel_rfl) Y6 Tryz.func7 rfl (by kernel_rfl) run w
theorem P9:tN Tryz.prog 7 yZ:=λargs H k h=>by
 match args,h with
 | [],h=>
  refine ⟨.bool true,H,gY.oH Tryz.func7 rfl rfl λbase w0 rho w cargs hp hv=>?_,h⟩
  have hc:cargs = #[]:=by
   simp only [cj]at hv
   cases cargs
   simp_all
  subst hc
  exact ⟨.bool true,by simp only [VR],ran w⟩
 | _ :: _,h=>exact (au h).elim
noncomputable def tab:Nat->Option cW:=λf=>Bool.rec (motive:=λ_=>Option cW) (Bool.rec (motive:=λ_=>Option cW) (Bool.rec (motive:=λ_=>Option cW) ((Tryz.prog.funcs[f]?).bind (je Tryz.prog f)) (some (.nat yZ)) (YL f 7)) (some (.nat (fN fK))) (YL f 123)) (some (.nat (fD df))) (YL f 89)
theorem abU:gZ Tryz.prog tab:=gZ.nat Be (gZ.nat GH (gZ.nat P9 (gZ.base (by kernel_rfl))))
theorem PL (f:Nat) (h:(YL f 89=false/\YL f 123=false)/\YL f 7=false):tab f=(Tryz.prog.funcs[f]?).bind (je Tryz.prog f):=by
 obtain ⟨⟨h1,h2⟩,h3⟩:=h
 unfold tab
 rw [h1,h2,h3]
set_option maxRecDepth 100000 in
theorem others:∀ f ∈ II,(YL f 89=false/\YL f 123=false)/\YL f 7=false:=by unfold II;decide
theorem aaE:aJ tab:=aJ.over (λf hf=>PL f (others f hf)) aaF
theorem Zh:tab 7=some (.nat yZ):=by
 unfold tab
 rw [show YL 7 89=false from rfl,show YL 7 123=false from rfl,show YL 7 7=true from rfl]
theorem packed:tab 123=some (.nat (fN fK)):=by
 unfold tab
 rw [show YL 123 89=false from rfl,show YL 123 123=true from rfl]
theorem PX:tab 89=some (.nat (fD df)):=by
 unfold tab
 rw [show YL 89 89=true from rfl]
theorem walk {w:World} {v0 v1 u0 u1:Value} {rs os:List (List Nat)} {a0 a1:List Nat} (h0:(nu w.heap.size v0).one=true) (h1:(nu w.heap.size v1).one=true) (r0:sE (dz w) (nu w.heap.size v0) rs) (r1:sE (dz w) (nu w.heap.size v1) os)
 (n0:a0.length<9223372036854775808) (t0:∀ q ∈ a0,q<256) (s0:Row (dz w) (λ_=>False) (nu w.heap.size u0) 1 a0.length (a0.map (V.int 4))) (n1:a1.length<9223372036854775808) (t1:∀ q ∈ a1,q<256) (s1:Row (dz w) (λ_=>False) (nu w.heap.size u1) 1 a1.length (a1.map (V.int 4))):
 Calls Tryz.prog 4 #[v0,v1,.agg #[u0,u1]] w λe w'=>e = .returned (.bool true)/\Below w.heap.size w w':=by
 refine FB (by kernel_rfl) abU (fuel:=2000000) (depth:=0+13) (args:=[nu w.heap.size v0,nu w.heap.size v1,.agg [nu w.heap.size u0,nu w.heap.size u1]]) ?_ λk x hx=>
  yd (fuel:=2000000) aaE rfl SA packed PX Zh (LZ w) r0 r1 s0 n0 t0 s1 n1 t1 (by decide) 0 k x hx
 simp only [cj,VR]
 exact ⟨_,_,rfl,xN w v0 h0,_,_,rfl,xN w v1 h1,_,_,rfl,⟨_,rfl,_,_,rfl,xN w u0 s0.one,_,_,rfl,xN w u1 s1.one,rfl⟩,rfl⟩
set_option maxRecDepth 100000 in
theorem lifted (os:Os) (started:os.Started) (H:Type) (enc:TypeId × Value->H):
 ReturnsInHanded {} Tryz.checked os 4 .any (λw args=>(Rows.linkPureSpec.pre enc Tryz.prog Tryz.f4 Rows.linkPureRow.domain false w args/\laidMetH Tryz.prog Rows.linkPureRow.laid w)/\sizedMet enc Tryz.prog Tryz.f4 (OpenSpec.ofChange Rows.linkPureSpec) false w args)
  (Rows.linkPureSpec.post enc Tryz.prog Tryz.f4 false true false false):=by
 refine returnsInHanded_of_change_and (C:=Tryz.checked) (X:=λw _=>laidMetH Tryz.prog Rows.linkPureRow.laid w) (λ_ _ _ hh h=>h.of_heap hh) own started (by kernel_rfl) Tryz.func4
  (ChangeSpec.witness_shaped (enc:=enc) (C:=Tryz.checked) (os:=os) (X:=λw _=>laidMetH Tryz.prog Rows.linkPureRow.laid w) false (World.laidAll Tryz.prog os Rows.linkPureRow.laid) #[.slice none 0 0,.slice none 0 0,.agg #[.slice none 0 0,.slice none 0 0]] 8 (World.laidAll_os _ _ _)
   (World.shaped_of_ZipB (by kernel_rfl) (by kernel_rfl)) (by kernel_rfl) (by kernel_rfl) (by kernel_rfl)
   (by rw [MakeChecks.laidMetH_plain _ _ _ (by kernel_rfl)];exact laidMet_laidAll _ (by kernel_rfl) (by kernel_rfl))) ?_
 intro W base args ds gs before hval0 hW hc _ hL _
 have hval:∀ (j:Nat) t v,Tryz.f4.params[j]? = some t->args[j]? = some v->Value.okWide Tryz.prog W .any base t v:=hval0
 have hW':=hW
 obtain ⟨p,q,hA0,hV,rfl,hnf,_⟩:=hW
 have hA:DataW.TrodAll enc Tryz.prog W 0 (λ_=>true) true Tryz.f4.params.toList args.toList ds p:=hA0
 rw [Tryz.params4]at hA hval
 obtain ⟨v0,v1,v2,d0,d1,d2,p0,p1,p2,rfl,rfl,rfl,k0,k1,k2⟩:=trodAll_three hA
 obtain ⟨rfl,rfl⟩:=trodVars_none hV
 obtain ⟨a0,len0,cap0,rfl⟩:=okWide_slice Tryz.underlying22 (hval 0 22 v0 rfl rfl)
 obtain ⟨a1,len1,cap1,rfl⟩:=okWide_slice Tryz.underlying22 (hval 1 22 v1 rfl rfl)
 obtain ⟨cs,rfl⟩:=ye Tryz.underlying46 (hval 2 46 v2 rfl rfl)
 have lt0:∀ x ∈ p0,x.block<W.heap.size:=by obtain ⟨m,hm⟩:=k0;exact DataW.trod_lt m _ _ _ hm
 have lt1:∀ x ∈ p1,x.block<W.heap.size:=by obtain ⟨m,hm⟩:=k1;exact DataW.trod_lt m _ _ _ hm
 have lt2:∀ x ∈ p2,x.block<W.heap.size:=by obtain ⟨m,hm⟩:=k2;exact DataW.trod_lt m _ _ _ hm
 have nf0:W.noneFrozen p0:=λb off h=>hnf b off (by simp [h])
 have nf1:W.noneFrozen p1:=λb off h=>hnf b off (by simp [h])
 have nf2:W.noneFrozen p2:=λb off h=>hnf b off (by simp [h])
 obtain ⟨o0,rs,r0⟩:(nu W.heap.size (.slice a0 len0 cap0)).one=true/\∃ rs,sE (dz W) (nu W.heap.size (.slice a0 len0 cap0)) rs:=by
  obtain ⟨m,hm⟩:=k0
  exact Jl (x:=(d0,p0)) Tryz.underlying22 (by kernel_rfl) Tryz.underlying45 (by kernel_rfl) Tryz.underlying5 hm nf0
 obtain ⟨o1,os',r1⟩:(nu W.heap.size (.slice a1 len1 cap1)).one=true/\∃ rs,sE (dz W) (nu W.heap.size (.slice a1 len1 cap1)) rs:=by
  obtain ⟨m,hm⟩:=k1
  exact Jl (x:=(d1,p1)) Tryz.underlying22 (by kernel_rfl) Tryz.underlying45 (by kernel_rfl) Tryz.underlying5 hm nf1
 obtain ⟨u0,u1,hcs,⟨l0,n0,t0,s0⟩,l1,n1,t1,s1⟩:∃ u0 u1:Value,cs.toList=[u0,u1]/\(∃ l:List Nat,l.length<9223372036854775808/\(∀ q ∈ l,q<256)/\Row (dz W) (λ_=>False) (nu W.heap.size u0) 1 l.length (l.map (V.int 4)))/\∃ l:List Nat,l.length<9223372036854775808/\(∀ q ∈ l,q<256)/\Row (dz W) (λ_=>False) (nu W.heap.size u1) 1 l.length (l.map (V.int 4)):=by
  obtain ⟨m,hm⟩:=k2
  exact HN (x:=(d2,p2)) Tryz.underlying46 (by kernel_rfl) (by kernel_rfl) Tryz.underlying45 (by kernel_rfl) Tryz.underlying5 hm nf2
 obtain rfl:cs = #[u0,u1]:=by rw [<- Array.toArray_toList (xs:=cs),hcs]
 simp only [List.append_nil]at hW'
 refine (walk o0 o1 r0 r1 n0 t0 s0 n1 t1 s1).mono λe W' ⟨he,bel⟩=>?_
 subst he
 exact ⟨_,rfl,_,_,_,[],_,[],hW',trodAll_mk1 (shut_bool Tryz.underlying4 _),
  trodAll_mk3 (Below.trod laidOut (by kernel_rfl) (of_decide_eq_true (by kernel_rfl)) k0 bel lt0) (Below.trod laidOut (by kernel_rfl) (of_decide_eq_true (by kernel_rfl)) k1 bel lt1) (Below.trod laidOut (by kernel_rfl) (of_decide_eq_true (by kernel_rfl)) k2 bel lt2),rfl,bel.frame _,λh=>by cases h⟩
theorem holds:Rows.LinkPureSaid:=
 OpenClaim.holds_of_wide 4 Tryz.f4 rfl rfl rfl rfl rfl rfl rfl ⟨rfl,rfl,rfl,rfl,rfl⟩ rfl rfl rfl rfl rfl (by kernel_rfl) Tryz.func4 (by kernel_rfl)
  (of_decide_eq_true (by kernel_rfl)) (by unfold Func.isWrapper;first|(rw [if_pos (by decide +kernel)];kernel_rfl)|(rw [if_neg (by decide +kernel)];exact ⟨rfl,rfl⟩))
  (λos started H enc _=>lifted os started H enc)
theorem plain (f:FuncId) (fn:Func) (hf:Tryz.pinned.checked.prog.funcNamed "stemma/stemmalaw21.LinkPure" = some f) (IY:Tryz.pinned.checked.prog.funcs[f]? = some fn):
 false=Tryz.pinned.checked.prog.looks []/\∀ (j:Nat) t,fn.params[j]? = some t->Tryz.pinned.checked.prog.wantsStandIn t=false:=by
 obtain rfl:f=4:=Option.some.inj ((show Tryz.prog.funcNamed "stemma/stemmalaw21.LinkPure" = some 4 by kernel_rfl).symm.trans hf) |>.symm
 obtain rfl:fn=Tryz.f4:=(Option.some.inj (Tryz.func4.symm.trans IY)).symm
 refine ⟨by kernel_rfl,λj t ht=>?_⟩
 rw [Tryz.params4]at ht
 have hm:t ∈ [22,22,46]:=by simpa using Array.mem_of_getElem? ht
 have hall:([22,22,46].all λu=>!Tryz.prog.wantsStandIn u)=true:=by kernel_rfl
 exact (show Tryz.prog.wantsStandIn t=false by simpa using List.all_eq_true.1 hall t hm)
/-- ████ THE CARD ████ -/
theorem proved:Rows.LinkPureCardSaid:=
 Claim7.holds_tied_plain_at .later [] _ _ _ _ holds (λ_ h=>by cases h) (by kernel_rfl) (λ_ h=>by cases h) linkPure_row_tie rfl ⟨rfl,rfl⟩ (by kernel_rfl) rfl plain (by kernel_rfl)
#print axioms proved
end Go.Proofs.YtalmhjlkdhlbiaaGreatDoor.linkPure
