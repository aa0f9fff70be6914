/- THE LAW VaultCrash returns true: wherever the power goes in a change,behind a Wake and Open the vault is the chain ahead of it,or the one behind it. No condition. -/
import Derived.Test.YtabnemidjklolaaGreatDoorVD
import Derived.Test.YtabnemidjklolaaGreatDoorEvFrame
import Derived.Test.YtabnemidjklolaaGreatDoorEvCrc2
import Derived.Test.YtabnemidjklolaaGreatDoorEvJoin2
import Derived.Test.YtabnemidjklolaaGreatDoorEvMapCopy
import Derived.Test.YtabnemidjklolaaGreatDoorCards
import Derived.Test.YtabnemidjklolaaGreatDoorTie
import Derived.ProofKit
import Derived.OpenShut
import Derived.ShutString
import Derived.Carry
import Derived.LaidMore
import Derived.Lay
import Derived.SevenTiedAt
import Derived.Stop.Joined
open Nat renaming beq→YR
namespace Go.Proofs.YtabnemidjklolaaGreatDoor.vaultCrash
open Go.ChangeShapes Go.WideShapes Go.ChangeAt Go.RowKit Go.Ev
theorem own:ownKnob Tryz.prog.godebug=none:=by kernel_rfl
theorem laidOut:laidOutB Tryz.prog=true:=by kernel_rfl
noncomputable def agc:Nat->Option du:=λf=>Bool.rec (motive:=λ_=>Option du) (Bool.rec (motive:=λ_=>Option du) ((Tryz.prog.funcs[f]?).bind (jc Tryz.prog f)) (some (.nat Uv)) (YR f 165)) (some (.nat Kg)) (YR f 144)
theorem adr:iT Tryz.prog agc:=iT.nat acE.nat (iT.nat O3 (iT.base (by kernel_rfl)))
set_option maxRecDepth 100000in theorem run:@Eq Nat (aS (aO Tryz.prog) agc 100000 100 (.func (2*7) []) [] H0 isTrue) (nat_lit 1):=by kernel_rfl
set_option maxRecDepth 100000in theorem ran(w:World):Calls Tryz.prog 7 #[] w λe w'=>e=.returned (.bool true)/\Below w.heap.size w w':=known (by kernel_rfl) adr Tryz.func7 rfl (by kernel_rfl) run w
theorem VY:vq Tryz.prog 7 yT:=λargs H k h=>by match args,h with
 |[],h=>
  refine⟨.bool true,H,iR.qg Tryz.func7 rfl rfl λbase w0 rho w cargs hp hv=>?_,h⟩;have hc:cargs=#[]:=by simp only[cA]at hv;cases cargs;simp_all
  subst hc;exact⟨.bool true,by simp only[VR],ran w⟩|_::_,h=>exact(aw h).elim
noncomputable def qV:Nat->Option du:=λf=>Bool.rec (motive:=λ_=>Option du) (Bool.rec (motive:=λ_=>Option du) (Bool.rec (motive:=λ_=>Option du) (Bool.rec (motive:=λ_=>Option du) ((Tryz.prog.funcs[f]?).bind (jc Tryz.prog f)) (some (.nat uL)) (YR f 74)) (some (.nat yT)) (YR f 7)) (some (.nat (dO gz))) (YR f 110)) (some (.nat (eE dy))) (YR f 85)
theorem agd:iT Tryz.prog qV:=iT.nat Dv (iT.nat Ki (iT.nat VY (iT.nat XJ.nat (iT.base (by kernel_rfl)))))
theorem VA(f:Nat)(h:((YR f 85=false/\YR f 110=false)/\YR f 7=false)/\YR f 74=false):qV f=(Tryz.prog.funcs[f]?).bind (jc Tryz.prog f):=by obtain⟨⟨⟨h1,h2⟩,h3⟩,h4⟩:=h;unfold qV;rw[h1,h2,h3,h4]
set_option maxRecDepth 100000in theorem others:∀f∈L0,((YR f 85=false/\YR f 110=false)/\YR f 7=false)/\YR f 74=false:=by unfold L0;decide
theorem ae1:aB qV:=aB.over (λf hf=>VA f (others f hf)) ae2
theorem copied:qV 74=some (.nat uL):=by unfold qV;rw[show YR 74 85=false from rfl,show YR 74 110=false from rfl,show YR 74 7=false from rfl,show YR 74 74=true from rfl]
theorem adF:qV 7=some (.nat yT):=by unfold qV;rw[show YR 7 85=false from rfl,show YR 7 110=false from rfl,show YR 7 7=true from rfl]
theorem packed:qV 110=some (.nat (dO gz)):=by unfold qV;rw[show YR 110 85=false from rfl,show YR 110 110=true from rfl]
theorem VN:qV 85=some (.nat (eE dy)):=by unfold qV;rw[show YR 85 85=true from rfl]
theorem walk{w:World}{v0 v2:Value}{m1 m2 m3:Int}{ds:List D3}{bs:List Bool}(h0:(tX w.heap.size v0).one=true)(w1:(Lit.int .u8 m1).wf=true)(w2:(Lit.int .u8 m2).wf=true)(w3:(Lit.int .u8 m3).wf=true)(a0:vk (eY w) (tX w.heap.size v0) ds)(h2:(tX w.heap.size v2).one=true)(hk:sJ (eY w) (tX w.heap.size v2) bs)(hkn:bs.length<9223372036854775808):Calls Tryz.prog 6 #[v0,.agg #[.int .u8 m1,.int .u8 m2,.int .u8 m3],v2] w λe w'=>e=.returned (.bool true)/\Below w.heap.size w w':=by refine Jo (by kernel_rfl) agd (fuel:=2000000) (depth:=0+12) (args:=[tX w.heap.size v0,.agg [.int 4 (m1%(2^IntKind.u8.bits:Nat)).toNat,.int 4 (m2%(2^IntKind.u8.bits:Nat)).toNat,.int 4 (m3%(2^IntKind.u8.bits:Nat)).toNat],tX w.heap.size v2]) ?_ λk x hx=>wO (fuel:=2000000) ae1 rfl X0 packed VN adF copied af3.1 af3.2 (RH w) a0 uZ uZ uZ hk hkn (by decide) 0 k x hx;have i1:=vh w (.int .u8 m1) (by rw[kJ w1];rfl);have i2:=vh w (.int .u8 m2) (by rw[kJ w2];rfl);have i3:=vh w (.int .u8 m3) (by rw[kJ w3];rfl);rw[kJ w1]at i1;rw[kJ w2]at i2;rw[kJ w3]at i3;simp only[VR]at i1 i2 i3;simp only[cA,VR];exact⟨_,_,rfl,vh w v0 h0,_,_,rfl,⟨_,rfl,_,_,rfl,i1,_,_,rfl,i2,_,_,rfl,i3,rfl⟩,_,_,rfl,vh w v2 h2,rfl⟩
set_option maxRecDepth 100000in theorem lifted(os:Os)(started:os.Started)(H:Type)(enc:TypeId×Value->H):ReturnsInHanded {} Tryz.checked os 6 .any (λw args=>(Rows.vaultCrashSpec.pre enc Tryz.prog Tryz.f6 Rows.vaultCrashRow.domain false w args/\laidMetH Tryz.prog Rows.vaultCrashRow.laid w)/\sizedMet enc Tryz.prog Tryz.f6 (OpenSpec.ofChange Rows.vaultCrashSpec) false w args) (Rows.vaultCrashSpec.post enc Tryz.prog Tryz.f6 false true false false):=by
 refine returnsInHanded_of_change_and (C:=Tryz.checked) (X:=λw _=>laidMetH Tryz.prog Rows.vaultCrashRow.laid w) (λ_ _ _ hh h=>h.of_heap hh) own started (by kernel_rfl) Tryz.func6 (ChangeSpec.witness_shaped (enc:=enc) (C:=Tryz.checked) (os:=os) (X:=λw _=>laidMetH Tryz.prog Rows.vaultCrashRow.laid w) false (World.laidAll Tryz.prog os Rows.vaultCrashRow.laid) #[.slice none 0 0,.agg #[.int .u8 0,.int .u8 0,.int .u8 0],.slice none 0 0] 8 (World.laidAll_os _ _ _) (World.shaped_of_ZipB (by kernel_rfl) (by kernel_rfl)) (by kernel_rfl) (by kernel_rfl) (by kernel_rfl) (by rw[MakeChecks.laidMetH_plain _ _ _ (by kernel_rfl)];exact laidMet_laidAll _ (by kernel_rfl) (by kernel_rfl))) ?_;intro W base args ds gs before hval0 hW hc _ hL _;have hval:∀(j:Nat)t v,Tryz.f6.params[j]?=some t->args[j]?=some v->Value.okWide Tryz.prog W .any base t v:=hval0;have hW':=hW;obtain⟨p,q,hA0,hV,rfl,hnf,_⟩:=hW;have hA:DataW.TrodAll enc Tryz.prog W 0 (λ_=>true) true Tryz.f6.params.toList args.toList ds p:=hA0;rw[Tryz.params6]at hA hval;obtain⟨v0,v1,v2,d0,d1,d2,p0,p1,p2,rfl,rfl,rfl,k0,k1,k2⟩:=trodAll_three hA;obtain⟨rfl,rfl⟩:=trodVars_none hV;obtain⟨a0,len0,cap0,rfl⟩:=okWide_slice Tryz.underlying22 (hval 0 22 v0 rfl rfl);obtain⟨cs,rfl,_⟩:=okWide_struct Tryz.underlying34 (hval 1 34 v1 rfl rfl);obtain⟨a2,len2,cap2,rfl⟩:=okWide_slice Tryz.underlying61 (hval 2 61 v2 rfl rfl);have lt0:∀x∈p0,x.block<W.heap.size:=by obtain⟨m,hm⟩:=k0;exact DataW.trod_lt m _ _ _ hm
 have lt1:∀x∈p1,x.block<W.heap.size:=by obtain⟨m,hm⟩:=k1;exact DataW.trod_lt m _ _ _ hm
 have lt2:∀x∈p2,x.block<W.heap.size:=by obtain⟨m,hm⟩:=k2;exact DataW.trod_lt m _ _ _ hm
 have nf0:W.noneFrozen p0:=λb off h=>hnf b off (by simp[h]);have nf2:W.noneFrozen p2:=λb off h=>hnf b off (by simp[h]);obtain⟨ds,s0⟩:∃ds,vk (eY W) (tX W.heap.size (.slice a0 len0 cap0)) ds:=by obtain⟨m,hm⟩:=k0;exact Tr (x:=(d0,p0)) Tryz.underlying22 Tryz.underlying34 (by kernel_rfl) rfl rfl rfl (by kernel_rfl) (by kernel_rfl) (by kernel_rfl) (by kernel_rfl) (by kernel_rfl) (by kernel_rfl) hm nf0
 obtain⟨n1,n2,n3,hcs,w1,w2,w3⟩:∃a b c:Int,cs.toList=[.int .u8 a,.int .u8 b,.int .u8 c]/\(Lit.int .u8 a).wf=true/\(Lit.int .u8 b).wf=true/\(Lit.int .u8 c).wf=true:=by obtain⟨m,hm⟩:=k1;exact XM Tryz.underlying34 (by kernel_rfl) rfl rfl rfl (by kernel_rfl) (by kernel_rfl) (by kernel_rfl) (by kernel_rfl) (by kernel_rfl) (by kernel_rfl) hm
 obtain rfl:cs=#[.int .u8 n1,.int .u8 n2,.int .u8 n3]:=by rw[<-Array.toArray_toList (xs:=cs),hcs]
 obtain⟨one2,bs,s2,n2'⟩:(tX W.heap.size (.slice a2 len2 cap2)).one=true/\∃bs,sJ (eY W) (tX W.heap.size (.slice a2 len2 cap2)) bs/\bs.length<9223372036854775808:=by obtain⟨m,hm⟩:=k2;exact Ug (x:=(d2,p2)) Tryz.underlying61 (by kernel_rfl) (by kernel_rfl) hm nf2
 simp only[List.append_nil]at hW';refine(walk s0.row.one w1 w2 w3 s0 one2 s2 n2').mono λe W'⟨he,bel⟩=>?_;subst he;exact⟨_,rfl,_,_,_,[],_,[],hW',trodAll_mk1 (shut_bool Tryz.underlying4 _),trodAll_mk3 (Below.trod laidOut (by kernel_rfl) (of_decide_eq_true (by kernel_rfl)) k0 bel lt0) (Below.trod laidOut (by kernel_rfl) (of_decide_eq_true (by kernel_rfl)) k1 bel lt1) (Below.trod laidOut (by kernel_rfl) (of_decide_eq_true (by kernel_rfl)) k2 bel lt2),rfl,bel.frame _,λh=>by cases h⟩
theorem holds:Rows.VaultCrashSaid:=OpenClaim.holds_of_wide 6 Tryz.f6 rfl rfl rfl rfl rfl rfl rfl ⟨rfl,rfl,rfl,rfl,rfl⟩ rfl rfl rfl rfl rfl (by kernel_rfl) Tryz.func6 (by kernel_rfl) (of_decide_eq_true (by kernel_rfl)) (by unfold Func.isWrapper;first|(rw[if_pos (by decide+kernel)];kernel_rfl)|(rw[if_neg (by decide+kernel)];exact⟨rfl,rfl⟩)) (λos started H enc _=>lifted os started H enc)
theorem plain(f:FuncId)(fn:Func)(hf:Tryz.pinned.checked.prog.funcNamed "stemma/stemmalaw10.VaultCrash"=some f)(Mk:Tryz.pinned.checked.prog.funcs[f]?=some fn):false=Tryz.pinned.checked.prog.looks []/\∀(j:Nat)t,fn.params[j]?=some t->Tryz.pinned.checked.prog.wantsStandIn t=false:=by
 obtain rfl:f=6:=Option.some.inj ((show Tryz.prog.funcNamed "stemma/stemmalaw10.VaultCrash"=some 6by kernel_rfl).symm.trans hf)|>.symm;obtain rfl:fn=Tryz.f6:=(Option.some.inj (Tryz.func6.symm.trans Mk)).symm;refine⟨by kernel_rfl,λj t ht=>?_⟩;rw[Tryz.params6]at ht;have hm:t∈[22,34,61]:=by simpa using Array.mem_of_getElem? ht
 have hall:([22,34,61].all λu=>!Tryz.prog.wantsStandIn u)=true:=by kernel_rfl
 exact(show Tryz.prog.wantsStandIn t=false by simpa using List.all_eq_true.1 hall t hm)
/-- ████ THE CARD ████ -/
theorem proved:Rows.VaultCrashCardSaid:=
 Claim7.holds_tied_plain_at .later [] _ _ _ _ holds (λ_ h=>by cases h) (by kernel_rfl) (λ_ h=>by cases h) vaultCrash_row_tie rfl ⟨rfl,rfl⟩ (by kernel_rfl) rfl plain (by kernel_rfl)
#printaxioms proved
end Go.Proofs.YtabnemidjklolaaGreatDoor.vaultCrash
