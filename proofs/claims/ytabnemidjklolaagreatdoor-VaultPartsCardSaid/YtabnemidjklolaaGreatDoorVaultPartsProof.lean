/- THE LAW VaultParts returns true: a snapshot that comes in parts is seen by nobody till all of it is there,and then it is as it was made at once. No condition. -/
import Derived.Test.YtabnemidjklolaaGreatDoorVP
import Derived.Test.YtabnemidjklolaaGreatDoorEvFrame
import Derived.Test.YtabnemidjklolaaGreatDoorEvCrc2
import Derived.Test.YtabnemidjklolaaGreatDoorEvJoin2
import Derived.Test.YtabnemidjklolaaGreatDoorCards
import Derived.Test.YtabnemidjklolaaGreatDoorTie
import Derived.ProofKit
import Derived.OpenShut
import Derived.ShutString
import Derived.Carry
import Derived.LaidMore
import Derived.Lay
import Derived.SevenTiedAt
import Derived.Stop.Joined
open Nat renaming beq→YR
namespace Go.Proofs.YtabnemidjklolaaGreatDoor.vaultParts
open Go.ChangeShapes Go.WideShapes Go.ChangeAt Go.RowKit Go.Ev
theorem own:ownKnob Tryz.prog.godebug=none:=by kernel_rfl
theorem laidOut:laidOutB Tryz.prog=true:=by kernel_rfl
noncomputable def aeU:Nat->Option dr:=λf=>Bool.rec (motive:=λ_=>Option dr) (Bool.rec (motive:=λ_=>Option dr) ((Tryz.prog.funcs[f]?).bind (jE Tryz.prog f)) (some (.nat SG)) (YR f 165)) (some (.nat IW)) (YR f 144)
theorem abV:jc Tryz.prog aeU:=jc.nat aba.nat (jc.nat Nu (jc.base (by kernel_rfl)))
set_option maxRecDepth 100000in theorem run:@Eq Nat (aT (aN Tryz.prog) aeU 100000 100 (.func (2*7) []) [] H0 isTrue) (nat_lit 1):=by kernel_rfl
set_option maxRecDepth 100000in theorem ran(w:World):Calls Tryz.prog 7 #[] w λe w'=>e=.returned (.bool true)/\Below w.heap.size w w':=known (by kernel_rfl) abV Tryz.func7 rfl (by kernel_rfl) run w
theorem Ug:vZ Tryz.prog 7 xP:=λargs H k h=>by match args,h with
 |[],h=>
  refine⟨.bool true,H,iv.pz Tryz.func7 rfl rfl λbase w0 rho w cargs hp hv=>?_,h⟩;have hc:cargs=#[]:=by simp only[bZ]at hv;cases cargs;simp_all
  subst hc;exact⟨.bool true,by simp only[VR],ran w⟩|_::_,h=>exact(aw h).elim
noncomputable def rH:Nat->Option dr:=λf=>Bool.rec (motive:=λ_=>Option dr) (Bool.rec (motive:=λ_=>Option dr) (Bool.rec (motive:=λ_=>Option dr) ((Tryz.prog.funcs[f]?).bind (jE Tryz.prog f)) (some (.nat xP)) (YR f 7)) (some (.nat (dC fS))) (YR f 110)) (some (.nat (eh df))) (YR f 85)
theorem aeV:jc Tryz.prog rH:=jc.nat Cd (jc.nat IY (jc.nat Ug (jc.base (by kernel_rfl))))
theorem TW(f:Nat)(h:(YR f 85=false/\YR f 110=false)/\YR f 7=false):rH f=(Tryz.prog.funcs[f]?).bind (jE Tryz.prog f):=by obtain⟨⟨h1,h2⟩,h3⟩:=h;unfold rH;rw[h1,h2,h3]
set_option maxRecDepth 100000in theorem others:∀f∈KC,(YR f 85=false/\YR f 110=false)/\YR f 7=false:=by unfold KC;decide
theorem adH:aB rH:=aB.over (λf hf=>TW f (others f hf)) adI
theorem ab6:rH 7=some (.nat xP):=by unfold rH;rw[show YR 7 85=false from rfl,show YR 7 110=false from rfl,show YR 7 7=true from rfl]
theorem packed:rH 110=some (.nat (dC fS)):=by unfold rH;rw[show YR 110 85=false from rfl,show YR 110 110=true from rfl]
theorem T7:rH 85=some (.nat (eh df)):=by unfold rH;rw[show YR 85 85=true from rfl]
theorem walk{w:World}{v0:Value}{l:List Int}{m:Int}{ds:List D3}(h0:(yH w.heap.size v0).one=true)(hl:∀a∈l,(Lit.int .u8 a).wf=true)(h8:l.length=8)(w1:(Lit.int .u8 m).wf=true)(a0:ua (ft w) (yH w.heap.size v0) ds):Calls Tryz.prog 4 #[v0,.agg (l.map (Value.int .u8)).toArray,.int .u8 m] w λe w'=>e=.returned (.bool true)/\Below w.heap.size w w':=by refine HV (by kernel_rfl) aeV (fuel:=2000000) (depth:=0+12) (args:=[yH w.heap.size v0,.agg ((ZZ l).map (V.int 4)),.int 4 (m%(2^IntKind.u8.bits:Nat)).toNat]) ?_ λk x hx=>vq (fuel:=2000000) adH rfl Vi packed T7 ab6 (O7 w) a0 (by rw[Xz];exact h8) abX yx (by decide) 0 k x hx;have i1:=CU w (.int .u8 m) (by rw[nA w1];rfl);rw[nA w1]at i1;simp only[VR]at i1;simp only[bZ,VR];exact⟨_,_,rfl,CU w v0 h0,_,_,rfl,⟨_,rfl,Ln hl⟩,_,_,rfl,i1,rfl⟩
set_option maxRecDepth 100000in theorem lifted(os:Os)(started:os.Started)(H:Type)(enc:TypeId×Value->H):ReturnsInHanded {} Tryz.checked os 4 .any (λw args=>(Rows.vaultPartsSpec.pre enc Tryz.prog Tryz.f4 Rows.vaultPartsRow.domain false w args/\laidMetH Tryz.prog Rows.vaultPartsRow.laid w)/\sizedMet enc Tryz.prog Tryz.f4 (OpenSpec.ofChange Rows.vaultPartsSpec) false w args) (Rows.vaultPartsSpec.post enc Tryz.prog Tryz.f4 false true false false):=by
 refine returnsInHanded_of_change_and (C:=Tryz.checked) (X:=λw _=>laidMetH Tryz.prog Rows.vaultPartsRow.laid w) (λ_ _ _ hh h=>h.of_heap hh) own started (by kernel_rfl) Tryz.func4 (ChangeSpec.witness_shaped (enc:=enc) (C:=Tryz.checked) (os:=os) (X:=λw _=>laidMetH Tryz.prog Rows.vaultPartsRow.laid w) false (World.laidAll Tryz.prog os Rows.vaultPartsRow.laid) #[.slice none 0 0,.agg #[.int .u8 0,.int .u8 0,.int .u8 0,.int .u8 0,.int .u8 0,.int .u8 0,.int .u8 0,.int .u8 0],.int .u8 0] 8 (World.laidAll_os _ _ _) (World.shaped_of_ZipB (by kernel_rfl) (by kernel_rfl)) (by kernel_rfl) (by kernel_rfl) (by kernel_rfl) (by rw[MakeChecks.laidMetH_plain _ _ _ (by kernel_rfl)];exact laidMet_laidAll _ (by kernel_rfl) (by kernel_rfl))) ?_;intro W base args ds gs before hval0 hW hc _ hL _;have hval:∀(j:Nat)t v,Tryz.f4.params[j]?=some t->args[j]?=some v->Value.okWide Tryz.prog W .any base t v:=hval0;have hW':=hW;obtain⟨p,q,hA0,hV,rfl,hnf,_⟩:=hW;have hA:DataW.TrodAll enc Tryz.prog W 0 (λ_=>true) true Tryz.f4.params.toList args.toList ds p:=hA0;rw[Tryz.params4]at hA hval;obtain⟨v0,v1,v2,d0,d1,d2,p0,p1,p2,rfl,rfl,rfl,k0,k1,k2⟩:=trodAll_three hA;obtain⟨rfl,rfl⟩:=trodVars_none hV;obtain⟨a0,len0,cap0,rfl⟩:=okWide_slice Tryz.underlying22 (hval 0 22 v0 rfl rfl);obtain⟨cs,rfl⟩:=Ck Tryz.underlying40 (hval 1 40 v1 rfl rfl);obtain⟨n1,rfl,rfl,rfl,w1⟩:=open_int Tryz.underlying5 (hval 2 5 v2 rfl rfl) k2;have lt0:∀x∈p0,x.block<W.heap.size:=by obtain⟨m,hm⟩:=k0;exact DataW.trod_lt m _ _ _ hm
 have lt1:∀x∈p1,x.block<W.heap.size:=by obtain⟨m,hm⟩:=k1;exact DataW.trod_lt m _ _ _ hm
 have nf0:W.noneFrozen p0:=λb off h=>hnf b off (by simp[h]);obtain⟨ds,s0⟩:∃ds,ua (ft W) (yH W.heap.size (.slice a0 len0 cap0)) ds:=by obtain⟨m,hm⟩:=k0;exact Ru (x:=(d0,p0)) Tryz.underlying22 Tryz.underlying34 (by kernel_rfl) rfl rfl rfl (by kernel_rfl) (by kernel_rfl) (by kernel_rfl) (by kernel_rfl) (by kernel_rfl) (by kernel_rfl) hm nf0
 obtain⟨l,hl8,hcs,hwf⟩:∃l:List Int,l.length=8/\cs.toList=l.map (Value.int .u8)/\∀a∈l,(Lit.int .u8 a).wf=true:=by obtain⟨m,hm⟩:=k1;exact T5 Tryz.underlying40 (by kernel_rfl) (by kernel_rfl) Tryz.underlying5 hm
 obtain rfl:cs=(l.map (Value.int .u8)).toArray:=by rw[<-hcs]
 simp only[List.append_nil]at hW';refine(walk s0.row.one hwf hl8 w1 s0).mono λe W'⟨he,bel⟩=>?_;subst he;exact⟨_,rfl,_,_,_,[],_,[],hW',trodAll_mk1 (shut_bool Tryz.underlying4 _),trodAll_mk3 (Below.trod laidOut (by kernel_rfl) (of_decide_eq_true (by kernel_rfl)) k0 bel lt0) (Below.trod laidOut (by kernel_rfl) (of_decide_eq_true (by kernel_rfl)) k1 bel lt1) (shut_int Tryz.underlying5 w1),rfl,bel.frame _,λh=>by cases h⟩
theorem holds:Rows.VaultPartsSaid:=OpenClaim.holds_of_wide 4 Tryz.f4 rfl rfl rfl rfl rfl rfl rfl ⟨rfl,rfl,rfl,rfl,rfl⟩ rfl rfl rfl rfl rfl (by kernel_rfl) Tryz.func4 (by kernel_rfl) (of_decide_eq_true (by kernel_rfl)) (by unfold Func.isWrapper;first|(rw[if_pos (by decide+kernel)];kernel_rfl)|(rw[if_neg (by decide+kernel)];exact⟨rfl,rfl⟩)) (λos started H enc _=>lifted os started H enc)
theorem plain(f:FuncId)(fn:Func)(hf:Tryz.pinned.checked.prog.funcNamed "stemma/stemmalaw10.VaultParts"=some f)(Sq:Tryz.pinned.checked.prog.funcs[f]?=some fn):false=Tryz.pinned.checked.prog.looks []/\∀(j:Nat)t,fn.params[j]?=some t->Tryz.pinned.checked.prog.wantsStandIn t=false:=by
 obtain rfl:f=4:=Option.some.inj ((show Tryz.prog.funcNamed "stemma/stemmalaw10.VaultParts"=some 4by kernel_rfl).symm.trans hf)|>.symm;obtain rfl:fn=Tryz.f4:=(Option.some.inj (Tryz.func4.symm.trans Sq)).symm;refine⟨by kernel_rfl,λj t ht=>?_⟩;rw[Tryz.params4]at ht;have hm:t∈[22,40,5]:=by simpa using Array.mem_of_getElem? ht
 have hall:([22,40,5].all λu=>!Tryz.prog.wantsStandIn u)=true:=by kernel_rfl
 exact(show Tryz.prog.wantsStandIn t=false by simpa using List.all_eq_true.1 hall t hm)
/-- ████ THE CARD ████ -/
theorem proved:Rows.VaultPartsCardSaid:=
 Claim7.holds_tied_plain_at .later [] _ _ _ _ holds (λ_ h=>by cases h) (by kernel_rfl) (λ_ h=>by cases h) vaultParts_row_tie rfl ⟨rfl,rfl⟩ (by kernel_rfl) rfl plain (by kernel_rfl)
#printaxioms proved
end Go.Proofs.YtabnemidjklolaaGreatDoor.vaultParts
