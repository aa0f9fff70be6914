/- THE LAW LinkKeeps returns true: nothing that the lineage has is rolled back,whatever lines come. No condition. -/
import Derived.Test.YtalmhjlkdhlbiaaGreatDoorVM
import Derived.Test.YtalmhjlkdhlbiaaGreatDoorEvFrame
import Derived.Test.YtalmhjlkdhlbiaaGreatDoorEvCrc2
import Derived.Test.YtalmhjlkdhlbiaaGreatDoorEvJoin2
import Derived.Test.YtalmhjlkdhlbiaaGreatDoorEvInsert
import Derived.Test.YtalmhjlkdhlbiaaGreatDoorCards
import Derived.Test.YtalmhjlkdhlbiaaGreatDoorTie
import Derived.ProofKit
import Derived.OpenShut
import Derived.ShutString
import Derived.Carry
import Derived.LaidMore
import Derived.Lay
import Derived.SevenTiedAt
import Derived.Stop.Joined
open Nat renaming beq → YK
namespace Go.Proofs.YtalmhjlkdhlbiaaGreatDoor.linkKeeps
open Go.ChangeShapes Go.WideShapes Go.ChangeAt Go.RowKit Go.Ev
theorem own:ownKnob Tryz.prog.godebug=none:=by kernel_rfl
theorem laidOut:laidOutB Tryz.prog=true:=by kernel_rfl
noncomputable def ach:Nat->Option cF:=λf=>Bool.rec (motive:=λ_=>Option cF) (Bool.rec (motive:=λ_=>Option cF) (Bool.rec (motive:=λ_=>Option cF) ((Tryz.prog.funcs[f]?).bind (jg Tryz.prog f)) (some (.nat Ot)) (YK f 176)) (some (.nat Hf)) (YK f 155)) (some (.nat iK)) (YK f 27)
theorem Zp:gq Tryz.prog ach:=gq.nat Dz.nat (gq.nat XK.nat (gq.nat KM (gq.base (by kernel_rfl))))
set_option maxRecDepth 100000 in
theorem run:@Eq Nat (aQ (aO Tryz.prog) ach 100000 100 (.func (2*7) []) [] H0 isTrue) (nat_lit 1):=by kernel_rfl
set_option maxRecDepth 100000 in
theorem ran (w:World):Calls Tryz.prog 7 #[] w λe w'=>e = .returned (.bool true)/\Below w.heap.size w w':=
 known (by kernel_rfl) Zp Tryz.func7 rfl (by kernel_rfl) run w
theorem P3:tP Tryz.prog 7 D0:=λargs H k h=>by
 match args,h with
 | [],h=>
  refine ⟨.bool true,H,ia.oW Tryz.func7 rfl rfl λbase w0 rho w cargs hp hv=>?_,h⟩
  have hc:cargs = #[]:=by
   simp only [bS]at hv
   cases cargs
   simp_all
  subst hc
  exact ⟨.bool true,by simp only [VR],ran w⟩
 | _ :: _,h=>exact (au h).elim
noncomputable def tab:Nat->Option cF:=λf=>Bool.rec (motive:=λ_=>Option cF) (Bool.rec (motive:=λ_=>Option cF) (Bool.rec (motive:=λ_=>Option cF) (Bool.rec (motive:=λ_=>Option cF) ((Tryz.prog.funcs[f]?).bind (jg Tryz.prog f)) (some (.nat D0)) (YK f 7)) (some (.nat iK)) (YK f 27)) (some (.nat (eD fJ))) (YK f 123)) (some (.nat (fC de))) (YK f 89)
theorem aci:gq Tryz.prog tab:=gq.nat Bn (gq.nat Hj (gq.nat Dz.nat (gq.nat P3 (gq.base (by kernel_rfl)))))
theorem PK (f:Nat) (h:((YK f 89=false/\YK f 123=false)/\YK f 27=false/\YK f 7=false)):tab f=(Tryz.prog.funcs[f]?).bind (jg Tryz.prog f):=by
 obtain ⟨⟨h1,h2⟩,h3,h4⟩:=h
 unfold tab
 rw [h1,h2,h3,h4]
set_option maxRecDepth 100000 in
theorem others:∀ f ∈ I7,((YK f 89=false/\YK f 123=false)/\YK f 27=false/\YK f 7=false):=by unfold I7;decide
theorem aa3:aG tab:=aG.over (λf hf=>PK f (others f hf)) aa4
theorem Zz:tab 7=some (.nat D0):=by
 unfold tab
 rw [show YK 7 89=false from rfl,show YK 7 123=false from rfl,show YK 7 27=false from rfl,show YK 7 7=true from rfl]
theorem NZ:tab 27=some (.nat iK):=by
 unfold tab
 rw [show YK 27 89=false from rfl,show YK 27 123=false from rfl,show YK 27 27=true from rfl]
theorem packed:tab 123=some (.nat (eD fJ)):=by
 unfold tab
 rw [show YK 123 89=false from rfl,show YK 123 123=true from rfl]
theorem PW:tab 89=some (.nat (fC de)):=by
 unfold tab
 rw [show YK 89 89=true from rfl]
theorem walk {w:World} {v0 v1:Value} {rs:List (List Nat)} {ps:List (Nat × Nat)} (h0:(qt w.heap.size v0).one=true) (h1:(qt w.heap.size v1).one=true) (r0:FB (dQ w) (qt w.heap.size v0) rs) (n1:ps.length<9223372036854775808) (t1:∀ q ∈ ps,q.1<256/\q.2<256) (r1:Row (dQ w) (λ_=>False) (qt w.heap.size v1) 2 ps.length (ya ps)):
 Calls Tryz.prog 3 #[v0,v1] w λe w'=>e = .returned (.bool true)/\Below w.heap.size w w':=by
 refine FW (by kernel_rfl) aci (fuel:=2000000) (depth:=0+13) (args:=[qt w.heap.size v0,qt w.heap.size v1]) ?_ λk x hx=>
  wT (fuel:=2000000) aa3 rfl Tg packed PW NZ Zz (Ma w) r0 r1 n1 t1 (by decide) 0 k x hx
 simp only [bS]
 exact ⟨_,_,rfl,IF w v0 h0,_,_,rfl,IF w v1 h1,rfl⟩
set_option maxRecDepth 100000 in
theorem lifted (os:Os) (started:os.Started) (H:Type) (enc:TypeId × Value->H):
 ReturnsInHanded {} Tryz.checked os 3 .any (λw args=>(Rows.linkKeepsSpec.pre enc Tryz.prog Tryz.f3 Rows.linkKeepsRow.domain false w args/\laidMetH Tryz.prog Rows.linkKeepsRow.laid w)/\sizedMet enc Tryz.prog Tryz.f3 (OpenSpec.ofChange Rows.linkKeepsSpec) false w args)
  (Rows.linkKeepsSpec.post enc Tryz.prog Tryz.f3 false true false false):=by
 refine returnsInHanded_of_change_and (C:=Tryz.checked) (X:=λw _=>laidMetH Tryz.prog Rows.linkKeepsRow.laid w) (λ_ _ _ hh h=>h.of_heap hh) own started (by kernel_rfl) Tryz.func3
  (ChangeSpec.witness_shaped (enc:=enc) (C:=Tryz.checked) (os:=os) (X:=λw _=>laidMetH Tryz.prog Rows.linkKeepsRow.laid w) false (World.laidAll Tryz.prog os Rows.linkKeepsRow.laid) #[.slice none 0 0,.slice none 0 0] 8 (World.laidAll_os _ _ _)
   (World.shaped_of_ZipB (by kernel_rfl) (by kernel_rfl)) (by kernel_rfl) (by kernel_rfl) (by kernel_rfl)
   (by rw [MakeChecks.laidMetH_plain _ _ _ (by kernel_rfl)];exact laidMet_laidAll _ (by kernel_rfl) (by kernel_rfl))) ?_
 intro W base args ds gs before hval0 hW hc _ hL _
 have hval:∀ (j:Nat) t v,Tryz.f3.params[j]? = some t->args[j]? = some v->Value.okWide Tryz.prog W .any base t v:=hval0
 have hW':=hW
 obtain ⟨p,q,hA0,hV,rfl,hnf,_⟩:=hW
 have hA:DataW.TrodAll enc Tryz.prog W 0 (λ_=>true) true Tryz.f3.params.toList args.toList ds p:=hA0
 rw [Tryz.params3]at hA hval
 obtain ⟨v0,v1,d0,d1,p0,p1,rfl,rfl,rfl,k0,k1⟩:=trodAll_two hA
 obtain ⟨rfl,rfl⟩:=trodVars_none hV
 obtain ⟨a0,len0,cap0,rfl⟩:=okWide_slice Tryz.underlying22 (hval 0 22 v0 rfl rfl)
 obtain ⟨a1,len1,cap1,rfl⟩:=okWide_slice Tryz.underlying23 (hval 1 23 v1 rfl rfl)
 have lt0:∀ x ∈ p0,x.block<W.heap.size:=by obtain ⟨m,hm⟩:=k0;exact DataW.trod_lt m _ _ _ hm
 have lt1:∀ x ∈ p1,x.block<W.heap.size:=by obtain ⟨m,hm⟩:=k1;exact DataW.trod_lt m _ _ _ hm
 have nf0:W.noneFrozen p0:=λb off h=>hnf b off (by simp [h])
 have nf1:W.noneFrozen p1:=λb off h=>hnf b off (by simp [h])
 obtain ⟨o0,rs,r0⟩:(qt W.heap.size (.slice a0 len0 cap0)).one=true/\∃ rs,FB (dQ W) (qt W.heap.size (.slice a0 len0 cap0)) rs:=by
  obtain ⟨m,hm⟩:=k0
  exact Ud (x:=(d0,p0)) Tryz.underlying22 (by kernel_rfl) Tryz.underlying45 (by kernel_rfl) Tryz.underlying5 hm nf0
 obtain ⟨o1,ps,n1,t1,r1⟩:(qt W.heap.size (.slice a1 len1 cap1)).one=true/\∃ ps:List (Nat × Nat),ps.length<9223372036854775808/\(∀ q ∈ ps,q.1<256/\q.2<256)/\Row (dQ W) (λ_=>False) (qt W.heap.size (.slice a1 len1 cap1)) 2 ps.length (ya ps):=by
  obtain ⟨m,hm⟩:=k1
  exact T7 (x:=(d1,p1)) Tryz.underlying23 (by kernel_rfl) Tryz.underlying32 (by kernel_rfl) Tryz.underlying5 hm nf1
 simp only [List.append_nil]at hW'
 refine (walk o0 o1 r0 n1 t1 r1).mono λe W' ⟨he,bel⟩=>?_
 subst he
 exact ⟨_,rfl,_,_,_,[],_,[],hW',trodAll_mk1 (shut_bool Tryz.underlying4 _),
  trodAll_mk2 (Below.trod laidOut (by kernel_rfl) (of_decide_eq_true (by kernel_rfl)) k0 bel lt0) (Below.trod laidOut (by kernel_rfl) (of_decide_eq_true (by kernel_rfl)) k1 bel lt1),rfl,bel.frame _,λh=>by cases h⟩
theorem holds:Rows.LinkKeepsSaid:=
 OpenClaim.holds_of_wide 3 Tryz.f3 rfl rfl rfl rfl rfl rfl rfl ⟨rfl,rfl,rfl,rfl,rfl⟩ rfl rfl rfl rfl rfl (by kernel_rfl) Tryz.func3 (by kernel_rfl)
  (of_decide_eq_true (by kernel_rfl)) (by unfold Func.isWrapper;first|(rw [if_pos (by decide +kernel)];kernel_rfl)|(rw [if_neg (by decide +kernel)];exact ⟨rfl,rfl⟩))
  (λos started H enc _=>lifted os started H enc)
theorem plain (f:FuncId) (fn:Func) (hf:Tryz.pinned.checked.prog.funcNamed "stemma/stemmalaw21.LinkKeeps" = some f) (Jl:Tryz.pinned.checked.prog.funcs[f]? = some fn):
 false=Tryz.pinned.checked.prog.looks []/\∀ (j:Nat) t,fn.params[j]? = some t->Tryz.pinned.checked.prog.wantsStandIn t=false:=by
 obtain rfl:f=3:=Option.some.inj ((show Tryz.prog.funcNamed "stemma/stemmalaw21.LinkKeeps" = some 3 by kernel_rfl).symm.trans hf) |>.symm
 obtain rfl:fn=Tryz.f3:=(Option.some.inj (Tryz.func3.symm.trans Jl)).symm
 refine ⟨by kernel_rfl,λj t ht=>?_⟩
 rw [Tryz.params3]at ht
 have hm:t ∈ [22,23]:=by simpa using Array.mem_of_getElem? ht
 have hall:([22,23].all λu=>!Tryz.prog.wantsStandIn u)=true:=by kernel_rfl
 exact (show Tryz.prog.wantsStandIn t=false by simpa using List.all_eq_true.1 hall t hm)
/-- ████ THE CARD ████ -/
theorem proved:Rows.LinkKeepsCardSaid:=
 Claim7.holds_tied_plain_at .later [] _ _ _ _ holds (λ_ h=>by cases h) (by kernel_rfl) (λ_ h=>by cases h) linkKeeps_row_tie rfl ⟨rfl,rfl⟩ (by kernel_rfl) rfl plain (by kernel_rfl)
#print axioms proved
end Go.Proofs.YtalmhjlkdhlbiaaGreatDoor.linkKeeps
