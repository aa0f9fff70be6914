/- THE LAW ReceiveFollows returns true: whoever asks for what comes next,and takes it,has all snapshots of who sends,in the end,and the first ones at any time. No condition. -/
import Derived.Test.YtnndgkcpacpleaaGreatDoorVF
import Derived.Test.YtnndgkcpacpleaaGreatDoorEvFrame
import Derived.Test.YtnndgkcpacpleaaGreatDoorEvCrc2
import Derived.Test.YtnndgkcpacpleaaGreatDoorEvJoin2
import Derived.Test.YtnndgkcpacpleaaGreatDoorCards
import Derived.Test.YtnndgkcpacpleaaGreatDoorTie
import Derived.ProofKit
import Derived.OpenShut
import Derived.ShutString
import Derived.Carry
import Derived.LaidMore
import Derived.Lay
import Derived.SevenTiedAt
import Derived.Stop.Joined
open Nat renaming beq → YM
namespace Go.Proofs.YtnndgkcpacpleaaGreatDoor.receiveFollows
open Go.ChangeShapes Go.WideShapes Go.ChangeAt Go.RowKit Go.Ev
theorem own:ownKnob Tryz.prog.godebug=none:=by kernel_rfl
theorem laidOut:laidOutB Tryz.prog=true:=by kernel_rfl
noncomputable def ae1:Nat->Option cP:=λf=>Bool.rec (motive:=λ_=>Option cP) (Bool.rec (motive:=λ_=>Option cP) ((Tryz.prog.funcs[f]?).bind (jz Tryz.prog f)) (some (.nat Sz)) (YM f 228)) (some (.nat J7)) (YM f 216)
theorem abt:iZ Tryz.prog ae1:=iZ.nat aaI.nat (iZ.nat NQ (iZ.base (by kernel_rfl)))
set_option maxRecDepth 100000 in
theorem run:@Eq Nat (aN (aP Tryz.prog) ae1 100000 100 (.func (2*30) []) [] H0 isTrue) (nat_lit 1):=by kernel_rfl
set_option maxRecDepth 100000 in
theorem ran (w:World):Calls Tryz.prog 30 #[] w λe w'=>e = .returned (.bool true)/\Below w.heap.size w w':=
 known (by kernel_rfl) abt Tryz.func30 rfl (by kernel_rfl) run w
theorem Uh:vZ Tryz.prog 30 GS:=λargs H k h=>by
 match args,h with
 | [],h=>
  refine ⟨.bool true,H,iu.pN Tryz.func30 rfl rfl λbase w0 rho w cargs hp hv=>?_,h⟩
  have hc:cargs = #[]:=by
   simp only [cm]at hv
   cases cargs
   simp_all
  subst hc
  exact ⟨.bool true,by simp only [VR],ran w⟩
 | _ :: _,h=>exact (av h).elim
noncomputable def rJ:Nat->Option cP:=λf=>Bool.rec (motive:=λ_=>Option cP) (Bool.rec (motive:=λ_=>Option cP) (Bool.rec (motive:=λ_=>Option cP) ((Tryz.prog.funcs[f]?).bind (jz Tryz.prog f)) (some (.nat GS)) (YM f 30)) (some (.nat (gI fY))) (YM f 102)) (some (.nat (ev df))) (YM f 119)
theorem ae2:iZ Tryz.prog rJ:=iZ.nat Cw (iZ.nat J9 (iZ.nat Uh (iZ.base (by kernel_rfl))))
theorem TP (f:Nat) (h:(YM f 119=false/\YM f 102=false)/\YM f 30=false):rJ f=(Tryz.prog.funcs[f]?).bind (jz Tryz.prog f):=by
 obtain ⟨⟨h1,h2⟩,h3⟩:=h
 unfold rJ
 rw [h1,h2,h3]
set_option maxRecDepth 100000 in
theorem others:∀ f ∈ L2,(YM f 119=false/\YM f 102=false)/\YM f 30=false:=by unfold L2;decide
theorem adm:aA rJ:=aA.over (λf hf=>TP f (others f hf)) adn
theorem abD:rJ 30=some (.nat GS):=by
 unfold rJ
 rw [show YM 30 119=false from rfl,show YM 30 102=false from rfl,show YM 30 30=true from rfl]
theorem packed:rJ 102=some (.nat (gI fY)):=by
 unfold rJ
 rw [show YM 102 119=false from rfl,show YM 102 102=true from rfl]
theorem T8:rJ 119=some (.nat (ev df)):=by
 unfold rJ
 rw [show YM 119 119=true from rfl]
theorem walk {w:World} {v0 v1:Value} {rs:List (List (Nat × Nat))} {a1:List Nat} (h0:(qJ w.heap.size v0).one=true) (h1:(qJ w.heap.size v1).one=true) (r0:OZ (dR w) (qJ w.heap.size v0) rs) (r1:ML (dR w) (qJ w.heap.size v1) a1):
 Calls Tryz.prog 4 #[v0,v1] w λe w'=>e = .returned (.bool true)/\Below w.heap.size w w':=by
 refine Jn (by kernel_rfl) ae2 (fuel:=2000000) (depth:=0+11) (args:=[qJ w.heap.size v0,qJ w.heap.size v1]) ?_ λk x hx=>
  qH (fuel:=2000000) adm rfl Vj packed T8 abD (Pb w) r0 r1 (by decide) 0 k x hx
 simp only [cm]
 exact ⟨_,_,rfl,Lo w v0 h0,_,_,rfl,Lo w v1 h1,rfl⟩
set_option maxRecDepth 100000 in
theorem lifted (os:Os) (started:os.Started) (H:Type) (enc:TypeId × Value->H):
 ReturnsInHanded {} Tryz.checked os 4 .any (λw args=>(Rows.receiveFollowsSpec.pre enc Tryz.prog Tryz.f4 Rows.receiveFollowsRow.domain false w args/\laidMetH Tryz.prog Rows.receiveFollowsRow.laid w)/\sizedMet enc Tryz.prog Tryz.f4 (OpenSpec.ofChange Rows.receiveFollowsSpec) false w args)
  (Rows.receiveFollowsSpec.post enc Tryz.prog Tryz.f4 false true false false):=by
 refine returnsInHanded_of_change_and (C:=Tryz.checked) (X:=λw _=>laidMetH Tryz.prog Rows.receiveFollowsRow.laid w) (λ_ _ _ hh h=>h.of_heap hh) own started (by kernel_rfl) Tryz.func4
  (ChangeSpec.witness_shaped (enc:=enc) (C:=Tryz.checked) (os:=os) (X:=λw _=>laidMetH Tryz.prog Rows.receiveFollowsRow.laid w) false (World.laidAll Tryz.prog os Rows.receiveFollowsRow.laid) #[.slice none 0 0,.slice none 0 0] 8 (World.laidAll_os _ _ _)
   (World.shaped_of_ZipB (by kernel_rfl) (by kernel_rfl)) (by kernel_rfl) (by kernel_rfl) (by kernel_rfl)
   (by rw [MakeChecks.laidMetH_plain _ _ _ (by kernel_rfl)];exact laidMet_laidAll _ (by kernel_rfl) (by kernel_rfl))) ?_
 intro W base args ds gs before hval0 hW hc _ hL _
 have hval:∀ (j:Nat) t v,Tryz.f4.params[j]? = some t->args[j]? = some v->Value.okWide Tryz.prog W .any base t v:=hval0
 have hW':=hW
 obtain ⟨p,q,hA0,hV,rfl,hnf,_⟩:=hW
 have hA:DataW.TrodAll enc Tryz.prog W 0 (λ_=>true) true Tryz.f4.params.toList args.toList ds p:=hA0
 rw [Tryz.params4]at hA hval
 obtain ⟨v0,v1,d0,d1,p0,p1,rfl,rfl,rfl,k0,k1⟩:=trodAll_two hA
 obtain ⟨rfl,rfl⟩:=trodVars_none hV
 obtain ⟨a0,len0,cap0,rfl⟩:=okWide_slice Tryz.underlying63 (hval 0 63 v0 rfl rfl)
 obtain ⟨a1,len1,cap1,rfl⟩:=okWide_slice Tryz.underlying64 (hval 1 64 v1 rfl rfl)
 have lt0:∀ x ∈ p0,x.block<W.heap.size:=by obtain ⟨m,hm⟩:=k0;exact DataW.trod_lt m _ _ _ hm
 have lt1:∀ x ∈ p1,x.block<W.heap.size:=by obtain ⟨m,hm⟩:=k1;exact DataW.trod_lt m _ _ _ hm
 have nf0:W.noneFrozen p0:=λb off h=>hnf b off (by simp [h])
 have nf1:W.noneFrozen p1:=λb off h=>hnf b off (by simp [h])
 obtain ⟨o0,rs,r0⟩:(qJ W.heap.size (.slice a0 len0 cap0)).one=true/\∃ rs,OZ (dR W) (qJ W.heap.size (.slice a0 len0 cap0)) rs:=by
  obtain ⟨m,hm⟩:=k0
  exact Xa (x:=(d0,p0)) Tryz.underlying63 (by kernel_rfl) Tryz.underlying42 (by kernel_rfl) Tryz.underlying134 rfl rfl (by kernel_rfl) (by kernel_rfl) (by kernel_rfl) (by kernel_rfl) hm nf0
 obtain ⟨o1,l1,n1,t1,r1⟩:(qJ W.heap.size (.slice a1 len1 cap1)).one=true/\∃ l:List Nat,l.length<9223372036854775808/\(∀ q ∈ l,q<256)/\Row (dR W) (λ_=>False) (qJ W.heap.size (.slice a1 len1 cap1)) 1 l.length (l.map (V.int 4)):=by
  obtain ⟨m,hm⟩:=k1
  exact T3 (x:=(d1,p1)) Tryz.underlying64 (by kernel_rfl) Tryz.underlying5 hm nf1
 simp only [List.append_nil]at hW'
 refine (walk o0 o1 r0 ⟨r1,n1,t1⟩).mono λe W' ⟨he,bel⟩=>?_
 subst he
 exact ⟨_,rfl,_,_,_,[],_,[],hW',trodAll_mk1 (shut_bool Tryz.underlying4 _),
  trodAll_mk2 (Below.trod laidOut (by kernel_rfl) (of_decide_eq_true (by kernel_rfl)) k0 bel lt0) (Below.trod laidOut (by kernel_rfl) (of_decide_eq_true (by kernel_rfl)) k1 bel lt1),rfl,bel.frame _,λh=>by cases h⟩
theorem holds:Rows.ReceiveFollowsSaid:=
 OpenClaim.holds_of_wide 4 Tryz.f4 rfl rfl rfl rfl rfl rfl rfl ⟨rfl,rfl,rfl,rfl,rfl⟩ rfl rfl rfl rfl rfl (by kernel_rfl) Tryz.func4 (by kernel_rfl)
  (of_decide_eq_true (by kernel_rfl)) (by unfold Func.isWrapper;first|(rw [if_pos (by decide +kernel)];kernel_rfl)|(rw [if_neg (by decide +kernel)];exact ⟨rfl,rfl⟩))
  (λos started H enc _=>lifted os started H enc)
theorem plain (f:FuncId) (fn:Func) (hf:Tryz.pinned.checked.prog.funcNamed "stemma/stemmalaw12.ReceiveFollows" = some f) (RY:Tryz.pinned.checked.prog.funcs[f]? = some fn):
 false=Tryz.pinned.checked.prog.looks []/\∀ (j:Nat) t,fn.params[j]? = some t->Tryz.pinned.checked.prog.wantsStandIn t=false:=by
 obtain rfl:f=4:=Option.some.inj ((show Tryz.prog.funcNamed "stemma/stemmalaw12.ReceiveFollows" = some 4 by kernel_rfl).symm.trans hf) |>.symm
 obtain rfl:fn=Tryz.f4:=(Option.some.inj (Tryz.func4.symm.trans RY)).symm
 refine ⟨by kernel_rfl,λj t ht=>?_⟩
 rw [Tryz.params4]at ht
 have hm:t ∈ [63,64]:=by simpa using Array.mem_of_getElem? ht
 have hall:([63,64].all λu=>!Tryz.prog.wantsStandIn u)=true:=by kernel_rfl
 exact (show Tryz.prog.wantsStandIn t=false by simpa using List.all_eq_true.1 hall t hm)
/-- ████ THE CARD ████ -/
theorem proved:Rows.ReceiveFollowsCardSaid:=
 Claim7.holds_tied_plain_at .later [] _ _ _ _ holds (λ_ h=>by cases h) (by kernel_rfl) (λ_ h=>by cases h) receiveFollows_row_tie rfl ⟨rfl,rfl⟩ (by kernel_rfl) rfl plain (by kernel_rfl)
#print axioms proved
end Go.Proofs.YtnndgkcpacpleaaGreatDoor.receiveFollows
